import Derived.Test.YticijodoelphcaaH3
set_option linter.unusedSimpArgs false
set_option linter.unusedVariables false
namespace Go.Proofs.Yticijodoelphcaa
open Go Go.Am

def okN (n : Nbr) : Prop := n.Lst.length * 56 ≤ 140737488355328 ∧ n.Sent.length * 56 ≤ 140737488355328 ∧ n.Req.length * 56 ≤ 140737488355328 ∧ n.Una.length * 56 ≤ 140737488355328
-- hello.cloneNeighbor
set_option maxHeartbeats 4000000 in
set_option maxRecDepth 10000 in
theorem f37 (n : Nbr) (ok : okN n) : CFun Try.prog 37 [encN n] [] (encN n) [] := by
  refine CFun.intro (tr := []) (fz := []) (n := 20) (rs := [.cell 2 47]) Try.func37 rfl (by kernel_rfl) rfl rfl mixed (by kernel_rfl) (by simp) (by simp) ?_
  obtain ⟨o1, o2, o3, o4⟩ := ok
  have h1 := fun H => (h56_cl n.Lst o1).up' H rfl rfl
  have h2 := fun H => (h56_cl n.Sent o2).up' H rfl rfl
  have h3 := fun H => (h56_cl n.Req o3).up' H rfl rfl
  have h4 := fun H => (h56_cl n.Una o4).up' H rfl rfl
  simp
  refine ⟨_, _, .inl (h1 _), by simp, ?_⟩
  simp
  refine ⟨_, _, .inl (h2 _), by simp, ?_⟩
  simp
  refine ⟨_, _, .inl (h3 _), by simp, ?_⟩
  simp
  refine ⟨_, _, .inl (h4 _), by simp, ?_⟩
  simp [ceH]
theorem src_N (l : List Nbr) (n : Nat) (hn : l.length = n) (H : List (List AVal)) : asrc H (.sl 15 (l.map encN) .sh) = some (15, n, rowC ceN l) := by
  have h : ((l.map encN).flatMap AVal.cells) = rowC ceN l := rowC_map (ce := ceN) l
  simp only [asrc, h, List.length_map, hn]
-- hello.clone
set_option maxHeartbeats 4000000 in
set_option maxRecDepth 10000 in
theorem f36 (s : Ifs) (n : Nat) (hn : s.N.length = n) (h0 : 0 < n) (hlen : n < 1000000000000) (ok : ∀ x ∈ s.N, okN x) : CFun Try.prog 36 [encS s] [] (.mix (cellsSx s (.osl 2 0 n (some n) 15))) [[], [], rowC ceN s.N] := by
  refine CFun.intro (tr := [100009]) (fz := []) (n := 30) (rs := [.cell 2 30]) Try.func36 rfl (by kernel_rfl) rfl rfl mixed (by kernel_rfl) (by simp) (by simp) ?_
  have s0 : 168 * n ≤ 281474976710656 := by omega
  have s1 : (n : Int) ≤ 9223372036854775807 := by omega
  have hsrc := src_N s.N n hn
  have hL := eN.rowLen s.N
  rw [hn] at hL
  have htk : (rowC ceN s.N).take (n * 15) = rowC ceN s.N := List.take_of_length_le (by omega)
  have hfl := flat_rep_len (zs := zN) (k := 15) rfl n
  have hset := setR_all (List.replicate n zN).flatten (rowC ceN s.N) (by omega)
  have hds := eN.rowDis s.N
  have hsc := eN.rowScalar s.N
  have hle := fun k => eN.rowLe k s.N
  have h0' : ¬ n = 0 := by omega
  simp only [zN] at hset hfl
  simp [hn, s0, s1, h0, hsrc, htk, hset, hds, hsc, h0', hfl, -asrc, -setR, -List.all_eq_true, -List.length_flatten]
  refine LoopK.intro (tr := []) mixed (by kernel_rfl) (fun i : Nat => [(1, .ptr 0 0), (2, .ptr 1 0), (3, .osl 2 0 n (some n) 15), (14, .osl 2 0 n (some n) 15), (15, .int .i64 n), (16, .int .i64 i)]) (fun _ => [cellsS s, cellsS ifs0, rowC ceN s.N]) (fun i => i ≤ n) (fun i => n - i) 0 ?_ ?_ ?_
  · simp
  · simp [hle, ifs0, ifc0]
  · rintro i h1
    by_cases hi : i < n
    · obtain ⟨x, hx, hd⟩ := get_drop (l := s.N) (i := i) (by omega)
      have h37 : ∀ H, CFun Try.prog 37 [.agg (ceN x)] H (.agg (ceN x)) H := fun H => (f37 x (ok x (List.mem_of_getElem? hx))).up' H rfl rfl
      have hload := eN.load0 hx
      have hst := eN.setOne0 s.N i x (by omega)
      have hself := set_self hx
      rw [hself] at hst
      have hfit : i * 15 + 15 ≤ n * 15 := by omega
      have w1 : IntKind.i64.wrap ((i : Int) + 1) = i + 1 := wrap_in (by omega)
      have hl := eN.len x
      have ht := List.all_eq_true.1 (eN.tree x)
      have hdis := eN.dis x
      have hyk : (List.take 15 (ceN x)) = ceN x := List.take_of_length_le (by omega)
      have hs0 : setR zN 0 (ceN x) = ceN x := rfl
      simp only [zN] at hs0
      have hl1 := eN.load0 (l := [x]) (i := 0) rfl
      rw [rowC_one, Nat.zero_mul] at hl1
      clear hd hset hfl hsrc
      simp [hi, hload, hl, hdis, hyk, hs0, hl1, -aload, -setR]
      refine ⟨_, _, .inl (by simpa using h37 _), by simp, ?_⟩
      simp [hi, hL, hfit, hst, hl, hdis, w1, -aload, -setR]
      exact ⟨i + 1, by omega, by omega, by simp [hle]⟩
    · have : i = n := by omega
      subst this
      simp [hle]
end Go.Proofs.Yticijodoelphcaa
