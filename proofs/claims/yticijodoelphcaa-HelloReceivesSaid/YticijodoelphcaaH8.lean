import Derived.Test.YticijodoelphcaaH7
set_option linter.unusedSimpArgs false
set_option linter.unusedVariables false
namespace Go.Proofs.Yticijodoelphcaa
open Go Go.Am

theorem gE {α : Type} {l : List α} {i : Nat} {x : α} (h : l[i]? = some x) : ∀ hi : i < l.length, l[i]'hi = x := by
  intro hi
  have := List.getElem?_eq_getElem hi
  rw [h] at this
  injection this with this
  exact this.symm
theorem idx_find (l : List Nbr) (r : Int) : (idxL (isN r) l 0 = -1 ∧ findI l r = (nbr0, false)) ∨ ∃ i x, idxL (isN r) l 0 = ((i : Nat) : Int) ∧ l[i]? = some x ∧ i < l.length ∧ findI l r = (x, true) := by
  rcases idxL_find (isN r) l 0 with ⟨h1, h2, _⟩ | ⟨i, x, h1, h2, h3⟩
  · exact .inl ⟨h1, by simp [findI, h2]⟩
  · refine .inr ⟨i, x, by simpa using h1, h2, (List.getElem?_eq_some_iff.1 h2).1, ?_⟩
    simp [findI, h3.1]
-- hello.Find
set_option maxHeartbeats 4000000 in
set_option maxRecDepth 10000 in
theorem f19 (s : Ifs) (n : Nat) (hn : s.N.length = n) (hlen : n < 1000000000000) (ok : ∀ x ∈ s.N, okN x) (r : Int) : CFun Try.prog 19 [encS s, .int .u32 r] [] (.tup [encN (findI s.N r).1, .bool (findI s.N r).2]) [] := by
  refine CFun.intro (tr := []) (fz := []) (n := 19) (rs := [.cell 4 47, .tmp 5]) Try.func19 rfl (by kernel_rfl) rfl rfl mixed (by kernel_rfl) (by simp) (by simp) ?_
  have h38 := fun H => (f38 s (by omega) r).up' H rfl rfl
  simp
  refine ⟨_, _, .inl (by simpa using h38 _), by simp, ?_⟩
  rcases idx_find s.N r with ⟨h1, h2⟩ | ⟨i, x, h1, h2, h3, h4⟩
  · simp [h1, h2, nbr0]
  · rw [h1, h4]
    have h5 : ¬ ((i : Int) < 0) := by omega
    have h6 : i < n := by omega
    have h37 := fun H => (f37 x (ok x (List.mem_of_getElem? h2))).up' H rfl rfl
    simp [h5, h2, gE h2, hn, h6]
    refine ⟨_, _, .inl (by simpa using h37 _), by simp, ?_⟩
    simp
-- routingref26.Find
set_option maxHeartbeats 4000000 in
set_option maxRecDepth 10000 in
theorem f24 (s : Ifs) (n : Nat) (hn : s.N.length = n) (hlen : n < 1000000000000) (r : Int) : CFun Try.prog 24 [encS s, .int .u32 r] [] (.tup [encN (findI s.N r).1, .bool (findI s.N r).2]) [] := by
  refine CFun.intro (tr := []) (fz := []) (n := 28) (rs := [.cell 4 47, .tmp 5]) Try.func24 rfl (by kernel_rfl) rfl rfl mixed (by kernel_rfl) (by simp) (by simp) ?_
  simp
  refine LoopK.intro (tr := []) mixed (by kernel_rfl) (fun i : Nat => [(1, .int .u32 r), (2, .ptr 0 0), (4, .ptr 1 0), (6, .int .i64 i)]) (fun _ => [cellsS s, cellsN nbr0]) (fun i => i ≤ n ∧ findI s.N r = findI (s.N.drop i) r) (fun i => n - i) 0 ?_ ?_ ?_
  · simp
  · simp [nbr0]
  · rintro i ⟨h1, h2⟩
    by_cases hi : i < n
    · obtain ⟨x, hx, hd⟩ := get_drop (l := s.N) (i := i) (by omega)
      rw [hd] at h2
      have w1 : IntKind.i64.wrap ((i : Int) + 1) = i + 1 := wrap_in (by omega)
      clear hd
      by_cases hb : x.Router = r
      · have h3 : findI s.N r = (x, true) := by rw [h2]; simp [findI, isN, hb]
        simp [hi, hn, hx, gE hx, hb, h3]
      · have h3 : findI s.N r = findI (s.N.drop (i + 1)) r := by rw [h2]; simp [findI, isN, hb]
        simp [hi, hn, hx, gE hx, hb, w1]
        exact ⟨i + 1, ⟨by omega, h3⟩, by omega, by simp [nbr0]⟩
    · have : i = n := by omega
      subst this
      rw [List.drop_eq_nil_of_le (by omega)] at h2
      have h3 : findI s.N r = (nbr0, false) := by rw [h2]; rfl
      simp [hn, h3, nbr0]
-- hello.Expire
set_option maxHeartbeats 8000000 in
set_option maxRecDepth 10000 in
theorem f27 (s : Ifs) (n : Nat) (hn : s.N.length = n) (h0 : 0 < n) (hlen : n < 1000000000000) (ok : ∀ x ∈ s.N, okN x) (t : Int) : CFun Try.prog 27 [encS s, .int .i64 t] [] (encS (expI s t)) [] := by
  refine CFun.intro (tr := [3000003000002]) (fz := [(502014, 5, true)]) (n := 13) (rs := [.cell 4 30]) Try.func27 rfl (by kernel_rfl) rfl rfl mixed (by kernel_rfl) (by simp) (by simp) ?_
  have h36 := (f36 s n hn h0 (by omega) ok).upAll [cellsS s, [.int .i64 t], zS] (by simp [eN.rowNoid, -List.all_eq_true]) rfl rfl
  have h50 := (n50_del s.N n n hn (Nat.le_refl _) (by omega) (lateN t) 51 [] [.iptr [.int .i64 t] 0] rfl rfl (fun x => f51 x t)).at (H := [cellsSx s (.osl 5 0 n (some n) 15), [], zS, [], [], rowC ceN s.N]) (id := 5) rfl (eN.rowNoid s.N) (eN.roomNoid _ _) (by simp [low, low0]) rfl
  have e50 : (s.N.filter fun x => !lateN t x) = (expI s t).N := rfl
  have hfl := List.length_filter_le (fun x => !lateN t x) s.N
  have hdl : (delRow ceN 15 (lateN t) s.N).length = n * 15 := by
    simp only [delRow, List.length_append, eN.rowLen, List.length_replicate]
    omega
  have hdt : (delRow ceN 15 (lateN t) s.N).take ((s.N.filter fun x => !lateN t x).length * 15) = rowC ceN (s.N.filter fun x => !lateN t x) := by
    rw [delRow, List.take_append_of_le_length (by rw [eN.rowLen]; omega), List.take_of_length_le (by rw [eN.rowLen]; omega)]
  rw [e50] at h50 hdt
  have hch := eN.chunk (expI s t).N _ rfl
  have htr := eN.rowTree (expI s t).N
  have hL2 := eN.rowLen (expI s t).N
  have hpos : 0 < n * 15 := by omega
  have e1 : (expI s t).C = s.C ∧ (expI s t).Up = s.Up ∧ (expI s t).DR = s.DR ∧ (expI s t).BDR = s.BDR ∧ (expI s t).Elect = s.Elect ∧ (expI s t).Next = s.Next := ⟨rfl, rfl, rfl, rfl, rfl, rfl⟩
  simp
  refine ⟨_, _, .inl (by simpa [ren, ren0, ren00, grow, ifs0, ifc0] using h36), by simp, ?_⟩
  simp
  refine ⟨_, _, .inl (by simpa [ren, ren0, ifs0, ifc0] using h50), by simp, ?_⟩
  simp [e1, hdl, hdt, hL2, hch, htr, hpos, -List.all_eq_true, -encN]
  exact fun _ _ => rfl
set_option maxHeartbeats 8000000 in
set_option maxRecDepth 10000 in
theorem f27z (s : Ifs) (hn : s.N = []) (t : Int) : CFun Try.prog 27 [encS s, .int .i64 t] [] (encS (expI s t)) [] := by
  refine CFun.intro (tr := [3000003000002]) (fz := []) (n := 13) (rs := [.cell 4 30]) Try.func27 rfl (by kernel_rfl) rfl rfl mixed (by kernel_rfl) (by simp) (by simp) ?_
  have h36 := (f36z s hn).up' [cellsS s, [.int .i64 t], zS] rfl rfl
  have h50 := (n50_del0 51 [] [.iptr [.int .i64 t] 0] rfl rfl (lateN t) (fun x => f51 x t)).up' [cellsSx s (.sl 15 [] .full), [], zS] rfl rfl
  have hw : expI s t = s := by cases s; simp_all [expI]
  rw [hw]
  simp
  refine ⟨_, _, .inl (by simpa [ifs0, ifc0] using h36), by simp, ?_⟩
  simp
  refine ⟨_, _, .inl (by simpa [ifs0, ifc0] using h50), by simp, ?_⟩
  simp [hn]
-- routingref26.Expire
set_option maxHeartbeats 8000000 in
set_option maxRecDepth 10000 in
theorem f28 (s : Ifs) (n : Nat) (hn : s.N.length = n) (hlen : n * 168 ≤ 140737488355328) (t : Int) : CFun Try.prog 28 [encS s, .int .i64 t] [] (encS (expI s t)) [] := by
  refine CFun.intro (tr := []) (fz := []) (n := 34) (rs := [.cell 4 30]) Try.func28 rfl (by kernel_rfl) rfl rfl mixed (by kernel_rfl) (by simp) (by simp) ?_
  simp
  refine LoopK.intro (tr := [23]) mixed (by kernel_rfl) (fun i : Nat => [(1, .int .i64 t), (2, .ptr 0 0), (4, .ptr 1 0), (5, .sl 15 (((s.N.take i).filter fun x => !lateN t x).map encN) .own), (6, .int .i64 i)]) (fun _ => [cellsS s, zS]) (fun i => i ≤ n) (fun i => n - i) 0 ?_ ?_ ?_
  · simp
  · simp [ifs0, ifc0]
  · rintro i h1
    by_cases hi : i < n
    · obtain ⟨x, hx, hd⟩ := get_drop (l := s.N) (i := i) (by omega)
      have w1 : IntKind.i64.wrap ((i : Int) + 1) = i + 1 := wrap_in (by omega)
      have ht : s.N.take (i + 1) = s.N.take i ++ [x] := by rw [List.take_add_one, hx]; rfl
      have hd1 : (s.N.take (i + 1)).filter (fun x => !lateN t x) = (s.N.take i).filter (fun x => !lateN t x) ++ (if t < x.Til then [x] else []) := by
        rw [ht, List.filter_append]
        by_cases h : t < x.Til
        · simp [lateN, h]
        · simp [lateN, h]
      have hq : ((s.N.take i).filter fun x => !lateN t x).length ≤ i := by
        have := List.length_filter_le (fun x => !lateN t x) (s.N.take i)
        simp at this ⊢
        omega
      generalize (s.N.take i).filter (fun x => !lateN t x) = L at hq hd1
      have s1 : L.length + 1 ≤ 140737488355328 := by omega
      have s2 : (L.length + 1) * 168 ≤ 140737488355328 := by omega
      clear hd ht
      by_cases hb : t < x.Til
      · rw [if_pos hb] at hd1
        simp [hi, hn, hx, gE hx, hb, s1, s2, w1]
        exact ⟨i + 1, by omega, by omega, by simp [hd1, ifs0, ifc0]⟩
      · rw [if_neg hb, List.append_nil] at hd1
        simp [hi, hn, hx, gE hx, hb, w1]
        exact ⟨i + 1, by omega, by omega, by simp [hd1, ifs0, ifc0]⟩
    · have : i = n := by omega
      subst this
      simp [hn, List.take_of_length_le (show s.N.length ≤ i by omega), expI]
end Go.Proofs.Yticijodoelphcaa
