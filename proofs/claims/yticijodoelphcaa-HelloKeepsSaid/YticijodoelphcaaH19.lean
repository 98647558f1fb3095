import Derived.Test.YticijodoelphcaaH17
set_option linter.unusedSimpArgs false
set_option linter.unusedVariables false
namespace Go.Proofs.Yticijodoelphcaa
open Go Go.Am

-- HelloKeeps
set_option maxHeartbeats 1600000 in
set_option maxRecDepth 10000 in
theorem c5 (s : Ifs) (oki : okI2 s.C) (ok : ∀ x ∈ s.N, okN x) (n : Nat) (hn : s.N.length = n) (hl : n * 168 ≤ 140737488351232) (r : Int) (p : Pkt) (hp : p.E.Seen.length < 140737488355328) (now : Int) : CFun Try.prog 5 [encS s, .int .u32 r, encP p, .int .i64 now] [] (.bool true) [] := by
  refine CFun.intro (tr := [900001000066]) (fz := []) (n := 102) (rs := [.tmp 8]) Try.func5 rfl (by kernel_rfl) rfl rfl mixed (by kernel_rfl) (by simp) (by simp) ?_
  have h10 := fun H => (f10 s _ rfl (by omega) oki).up' H rfl rfl
  have h0 := fun H => f11.up' H rfl rfl
  simp
  refine ⟨_, _, .inl (by simpa using h10 _), by simp, ?_⟩
  cases hg : goodB s
  · simp
    refine ⟨_, _, .inl (by simpa using h0 _), by simp, ?_⟩
    simp
  by_cases n0 : now < 0
  · simp [n0]
    refine ⟨_, _, .inl (by simpa using h0 _), by simp, ?_⟩
    simp
  by_cases n1 : 1099511627776 < now
  · simp [n0, n1]
    refine ⟨_, _, .inl (by simpa using h0 _), by simp, ?_⟩
    simp
  have hgood := (goodB_iff s).1 hg
  obtain ⟨hc, ha⟩ := (goodB_iff s).1 hg
  have hw := dead_in hc (by omega) (show now ≤ 1099511627776 by omega)
  have h1 := fun H => (f12 s (by omega) ok r p hp now hw).up' H rfl rfl
  obtain ⟨o1, o2⟩ := recv_oks ok r p now
  have hC : (recvI s r p now).2 = 0 → (recvI s r p now).1.C = s.C := fun h => by rw [(recv_ok ha h).2]
  have hG := fun h => recv_good (r := r) (p := p) (now := now) hgood h
  have hA := fun h => recv_again ha (r := r) (p := p) (now := now) h
  have hF := fun h x hx => recv_find ha (r := r) (p := p) (now := now) h (x := x) hx
  clear hg ha hc
  generalize recvI s r p now = q at h1 o1 o2 hC hG hA hF
  simp [n0, n1]
  refine ⟨_, _, .inl (by simpa using h1 _), by simp, ?_⟩
  by_cases he : q.2 = 0
  case neg =>
    simp [he]
    refine ⟨_, _, .inl (by simpa using h0 _), by simp, ?_⟩
    simp
  replace hC := hC he
  replace hG := (goodB_iff _).2 (hG he)
  replace hA := hA he
  replace hF := hF he
  have h2 := fun H => (f12 q.1 (by omega) o1 r p hp now (by rw [hC]; exact hw)).up' H rfl rfl
  rw [hA] at h2
  have h3 := fun H => (f14 q.1 (by omega) o1).up' H rfl rfl
  have h4 := fun H => (f10 q.1 _ rfl (by omega) (by rw [hC]; exact oki)).up' H rfl rfl
  rw [hG] at h4
  have h19 := fun x => f19 q.1 _ rfl (by omega) o1 x
  have hln : n < 1000000000000 := by omega
  clear hA hC hG hw h1 h10 o1 o2 hl oki hgood hp
  simp [he, hn]
  refine ⟨_, _, .inl (by simpa using h2 _), by simp, ?_⟩
  simp
  refine ⟨_, _, .inl (by simpa using h3 _), by simp, ?_⟩
  simp
  refine ⟨_, _, .inl (by simpa using h4 _), by simp, ?_⟩
  simp [hn]
  clear h2 h3 h4
  refine LoopK.intro (tr := [900001000066]) mixed (by kernel_rfl) (fun i : Nat => [(3, .int .i64 now), (4, .ptr 0 0), (6, .ptr 1 0), (9, .ptr 2 0), (62, .int .i64 n), (63, .int .i64 i)]) (fun _ => [cellsS s, cellsP p, cellsS q.1]) (fun i => i ≤ n) (fun i => n - i) 0 ?_ ?_ ?_
  · simp
  · simp
  · rintro i h1
    by_cases hi : i < n
    · obtain ⟨x, hx, hd⟩ := get_drop (l := s.N) (i := i) (by omega)
      have w1 : IntKind.i64.wrap ((i : Int) + 1) = i + 1 := wrap_in (by omega)
      obtain ⟨hf1, hf2⟩ := hF x (List.mem_of_getElem? hx)
      have h20 := fun H => (f20 x (ok x (List.mem_of_getElem? hx))).up' H rfl rfl
      have h19 := h19 x.Router
      rw [hf1] at h19
      clear hd hF
      simp [hi, hn, hx, gE hx]
      refine ⟨_, by simpa using h19, by simp [noid, noid0], ?_⟩
      by_cases hb : x.Router = p.Router
      · simp [hi, hn, hx, gE hx, hb, w1]
        exact ⟨i + 1, by omega, by omega, by simp⟩
      · replace hf2 := hf2 hb
        generalize (findI q.1.N x.Router).1 = g at hf2 ⊢
        subst hf2
        simp [hi, hn, hx, gE hx, hb, w1]
        refine ⟨_, _, .inl (by simpa using h20 _), by simp, ?_⟩
        simp [hi, hn, hx, gE hx, hb, w1]
        exact ⟨i + 1, by omega, by omega, by simp⟩
    · have : i = n := by omega
      subst this
      simp
      refine ⟨_, _, .inl (by simpa using h0 _), by simp, ?_⟩
      simp
end Go.Proofs.Yticijodoelphcaa
