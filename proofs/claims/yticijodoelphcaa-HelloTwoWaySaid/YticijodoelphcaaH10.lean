import Derived.Test.YticijodoelphcaaH8
set_option linter.unusedSimpArgs false
set_option linter.unusedVariables false
namespace Go.Proofs.Yticijodoelphcaa
open Go Go.Am

/-- A hello's cells, its list as x. -/
@[simp] def cellsMx (s : Ifs) (r : Int) (x : AVal) : List AVal := [.int .i64 1, .int .u32 r, .int .u32 s.C.Area, .int .u32 s.C.Addr,
  .int .i64 s.C.PL, .int .i64 s.C.Hello, .int .i64 s.C.Dead, .int .i64 s.C.Pri, .int .u32 s.DR, .int .u32 s.BDR, x,
  .int .i64 0, .bool false, .bool false, .bool false, .sl 0 [] .full, .sl 0 [] .full, .sl 0 [] .full]
@[simp] def zP : List AVal := [.int .i64 0, .int .u32 0, .int .u32 0, .int .u32 0,
  .int .i64 0, .int .i64 0, .int .i64 0, .int .i64 0, .int .u32 0, .int .u32 0, .sl 0 [] .full,
  .int .i64 0, .bool false, .bool false, .bool false, .sl 0 [] .full, .sl 0 [] .full, .sl 0 [] .full]
def seenL (l : List Nbr) : List Int := (l.filter fun n => decide (1 ≤ n.State)).map Nbr.Router
theorem seen_next {l : List Nbr} {i : Nat} {x : Nbr} (h : l[i]? = some x) : seenL (l.take (i + 1)) = seenL (l.take i) ++ (if 1 ≤ x.State then [x.Router] else []) ∧ (seenL (l.take i)).length ≤ i := by
  have ht : l.take (i + 1) = l.take i ++ [x] := by rw [List.take_add_one, h]; rfl
  refine ⟨?_, ?_⟩
  · rw [seenL, seenL, ht, List.filter_append, List.map_append]
    by_cases hb : 1 ≤ x.State <;> simp [hb]
  · have := List.length_filter_le (fun n : Nbr => decide (1 ≤ n.State)) (l.take i)
    simp only [seenL, List.length_map]
    simp at this ⊢
    omega
-- hello.Make
set_option maxHeartbeats 1600000 in
set_option maxRecDepth 10000 in
theorem f23 (s : Ifs) (n : Nat) (hn : s.N.length = n) (hlen : n < 1000000000000) (r : Int) : CFun Try.prog 23 [encS s, .int .u32 r] [] (encP (makeI s r)) [] := by
  refine CFun.intro (tr := []) (fz := []) (n := 53) (rs := [.cell 4 38]) Try.func23 rfl (by kernel_rfl) rfl rfl mixed (by kernel_rfl) (by simp) (by simp) ?_
  simp [hn]
  refine LoopK.intro (tr := [44]) mixed (by kernel_rfl) (fun i : Nat => [(2, .ptr 0 0), (4, .ptr 1 0), (5, .ptr 2 0), (6, .ptr 3 0), (33, .sl 15 (s.N.map encN) .sh), (34, .int .i64 n), (35, .int .i64 i)]) (fun i => [cellsS s, zP, cellsI s.C, cellsMx s r (.sl 1 ((seenL (s.N.take i)).map enc32) .own)]) (fun i => i ≤ n) (fun i => n - i) 0 ?_ ?_ ?_
  · simp
  · simp [seenL]
  · rintro i h1
    by_cases hi : i < n
    · obtain ⟨x, hx, hd⟩ := get_drop (l := s.N) (i := i) (by omega)
      have w1 : IntKind.i64.wrap ((i : Int) + 1) = i + 1 := wrap_in (by omega)
      obtain ⟨hs, hq⟩ := seen_next hx
      generalize seenL (s.N.take i) = L at hs hq
      have s1 : L.length + 1 ≤ 140737488355328 := by omega
      have s2 : (L.length + 1) * 4 ≤ 140737488355328 := by omega
      clear hd
      by_cases hb : 1 ≤ x.State
      · rw [if_pos hb] at hs
        simp [hi, hn, hx, gE hx, hb, s1, s2, w1]
        exact ⟨i + 1, by omega, by omega, by simp [hs]⟩
      · rw [if_neg hb, List.append_nil] at hs
        simp [hi, hn, hx, gE hx, hb, w1]
        exact ⟨i + 1, by omega, by omega, by simp [hs]⟩
    · have : i = n := by omega
      subst this
      simp [hn, List.take_of_length_le (show s.N.length ≤ i by omega), makeI, helOf, pkt0, seenL]
-- routingref26.Make
set_option maxHeartbeats 1600000 in
set_option maxRecDepth 10000 in
theorem f26 (s : Ifs) (n : Nat) (hn : s.N.length = n) (hlen : n < 1000000000000) (r : Int) : CFun Try.prog 26 [encS s, .int .u32 r] [] (encP (makeI s r)) [] := by
  refine CFun.intro (tr := []) (fz := []) (n := 59) (rs := [.cell 4 38]) Try.func26 rfl (by kernel_rfl) rfl rfl mixed (by kernel_rfl) (by simp) (by simp) ?_
  simp
  refine LoopK.intro (tr := [47, 4000047]) mixed (by kernel_rfl) (fun i : Nat => [(2, .ptr 0 0), (4, .ptr 1 0), (5, .ptr 2 0), (6, .ptr 3 0), (7, .int .i64 i)]) (fun i => [cellsS s, zP, cellsI s.C, cellsMx s r (.sl 1 ((seenL (s.N.take i)).map enc32) .own)]) (fun i => i ≤ n) (fun i => n - i) 0 ?_ ?_ ?_
  · simp
  · simp [seenL]
  · rintro i h1
    by_cases hi : i < n
    · obtain ⟨x, hx, hd⟩ := get_drop (l := s.N) (i := i) (by omega)
      have w1 : IntKind.i64.wrap ((i : Int) + 1) = i + 1 := wrap_in (by omega)
      obtain ⟨hs, hq⟩ := seen_next hx
      generalize seenL (s.N.take i) = L at hs hq
      have s1 : L.length + 1 ≤ 140737488355328 := by omega
      have s2 : (L.length + 1) * 4 ≤ 140737488355328 := by omega
      clear hd
      by_cases hb : 1 ≤ x.State
      · rw [if_pos hb] at hs
        simp [hi, hn, hx, gE hx, hb, s1, s2, w1]
        exact ⟨i + 1, by omega, by omega, by simp [hs]⟩
      · rw [if_neg hb, List.append_nil] at hs
        simp [hi, hn, hx, gE hx, hb, w1]
        exact ⟨i + 1, by omega, by omega, by simp [hs]⟩
    · have : i = n := by omega
      subst this
      simp [hn, List.take_of_length_le (show s.N.length ≤ i by omega), makeI, helOf, pkt0, seenL]
end Go.Proofs.Yticijodoelphcaa
