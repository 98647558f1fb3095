import Derived.Test.YtmgkemffbmfmpaaE12
set_option linter.unusedSimpArgs false
set_option linter.unusedVariables false
namespace Go.Proofs.Ytmgkemffbmfmpaa
open Go Go.Am

theorem row_split {l : List Lsa} {i : Nat} {x : Lsa} (h : l[i]? = some x) : l = l.take i ++ x :: l.drop (i + 1) ∧ (l.take i).length = i := by
  have hi := (List.getElem?_eq_some_iff.1 h).1
  obtain ⟨y, hy, hd⟩ := get_drop (l := l) (i := i) hi
  rw [h] at hy
  injection hy with hy
  subst hy
  refine ⟨?_, by simp; omega⟩
  rw [← hd, List.take_append_drop]
theorem rowA_cut {l : List Lsa} {i : Nat} {x : Lsa} (h : l[i]? = some x) : ∃ A B : List AVal, rowC cellsA l = A ++ (cellsA x ++ B) ∧ A.length = i * 15 ∧ ∀ y, rowC cellsA (l.set i y) = A ++ (cellsA y ++ B) := by
  obtain ⟨e, hl⟩ := row_split h
  refine ⟨rowC cellsA (l.take i), rowC cellsA (l.drop (i + 1)), ?_, by rw [eA.rowLen, hl], fun y => ?_⟩
  · conv => lhs; rw [e]
    rw [rowC_app, rowC_cons]
  · conv => lhs; rw [e]
    rw [List.set_append_right _ _ (by omega), hl, Nat.sub_self, List.set_cons_zero, rowC_app, rowC_cons]
theorem rowA_age {l : List Lsa} {i : Nat} {x : Lsa} (h : l[i]? = some x) : (rowC cellsA l)[i * 15 + 5]? = some (.int .i64 x.H.Age) := by
  obtain ⟨A, B, e, hA, _⟩ := rowA_cut h
  rw [e, List.getElem?_append_right (by omega), show i * 15 + 5 - A.length = 5 by omega]
  rfl
theorem rowA_hdr {l : List Lsa} {i : Nat} {x : Lsa} (h : l[i]? = some x) : aload (some (true, 7)) (rowC cellsA l) (i * 15) = some (encH x.H) := by
  obtain ⟨A, B, e, hA, _⟩ := rowA_cut h
  rw [e, ← hA]
  simp only [aload, List.drop_left']
  rw [if_pos]
  · rfl
  · exact ⟨by omega, by simp, rfl⟩
theorem rowA_set {l : List Lsa} {i : Nat} {x : Lsa} (h : l[i]? = some x) (a : Int) : (rowC cellsA l).set (i * 15 + 5) (.int .i64 a) = rowC cellsA (l.set i { x with H := { x.H with Age := a } }) := by
  obtain ⟨A, B, e, hA, hs⟩ := rowA_cut h
  rw [hs, e, List.set_append_right _ _ (by omega), show i * 15 + 5 - A.length = 5 by omega]
  rfl
end Go.Proofs.Ytmgkemffbmfmpaa

namespace Go.Proofs.Ytmgkemffbmfmpaa
open Go Go.Am

/-- Half of the way. -/
def advL (s : Int) (l : List Lsa) (i : Nat) : List Lsa := (l.take i).map (advA s) ++ l.drop i
def keysL (s : Int) (l : List Lsa) (i : Nat) : List LKey := ((l.take i).filter fun x => expS s x.H.Age).map keyA
def clS (s : Int) : Int := if 3600 < (if s < 0 then 0 else s) then 3600 else if s < 0 then 0 else s
theorem adv_next {s : Int} {l : List Lsa} {i : Nat} {x : Lsa} (h : l[i]? = some x) : (advL s l i)[i]? = some x ∧ (advL s l i).set i (advA s x) = advL s l (i + 1) ∧ keysL s l (i + 1) = keysL s l i ++ (if expS s x.H.Age = true then [keyA x] else []) := by
  obtain ⟨e, hl⟩ := row_split h
  have hi := (List.getElem?_eq_some_iff.1 h).1
  have hd : l.drop i = x :: l.drop (i + 1) := by
    obtain ⟨y, hy, hd⟩ := get_drop (l := l) (i := i) hi
    rw [h] at hy
    injection hy with hy
    subst hy
    exact hd
  have ht : l.take (i + 1) = l.take i ++ [x] := by rw [List.take_add_one, h]; rfl
  have hl2 : ((l.take i).map (advA s)).length = i := by rw [List.length_map, hl]
  refine ⟨?_, ?_, ?_⟩
  · rw [advL, hd, List.getElem?_append_right (by omega), hl2, Nat.sub_self]; rfl
  · rw [advL, hd, List.set_append_right _ _ (by omega), hl2, Nat.sub_self, List.set_cons_zero, advL, ht]
    simp
  · rw [keysL, keysL, ht, List.filter_append, List.map_append]
    congr 1
    cases h : expS s x.H.Age <;> simp [h]
end Go.Proofs.Ytmgkemffbmfmpaa

namespace Go.Proofs.Ytmgkemffbmfmpaa
open Go Go.Am

theorem age_calc {s a : Int} (h0 : 0 ≤ a) (h1 : a ≤ 3600) : 0 ≤ clS s ∧ clS s ≤ 3600 ∧ (expS s a = true ↔ 3600 ≤ a + clS s ∧ a < 3600) ∧ ageS s a = if 3600 < a + clS s then 3600 else a + clS s := by
  unfold clS expS ageS
  simp only [decide_eq_true_eq]
  refine ⟨by split <;> (try split) <;> omega, by split <;> (try split) <;> omega, ?_, ?_⟩
  · split <;> (try split) <;> omega
  · split <;> (try split) <;> (try split) <;> (try split) <;> (try split) <;> omega
end Go.Proofs.Ytmgkemffbmfmpaa

namespace Go.Proofs.Ytmgkemffbmfmpaa
open Go Go.Am

-- lsdb.Advance
set_option maxHeartbeats 2000000 in
set_option maxRecDepth 10000 in
theorem f29 (l : List Lsa) (n : Nat) (hn : l.length = n) (h0 : 0 < n) (hlen : n < 1000000000) (ok : ∀ x ∈ l, okL x) (ha : ∀ x ∈ l, 0 ≤ x.H.Age ∧ x.H.Age ≤ 3600) (s : Int) : CFun Try.prog 29 [.sl 15 (l.map encA) .sh, .int .i64 s] [] (.tup [.sl 15 ((advD l s).1.map encA) .sh, .sl 4 ((advD l s).2.map encY) .sh]) [] := by
  refine CFun.intro (tr := [39]) (fz := [(4, 0, true)]) (n := 54) (rs := [.tmp 4, .tmp 5]) Try.func29 rfl (by kernel_rfl) rfl rfl mixed (by kernel_rfl) (by simp) (by simp) ?_
  have h84 := f84 l n hn h0 (by omega) ok
  simp
  refine ⟨_, _, .inl (by simpa using h84), by simp, ?_⟩
  simp
  refine LoopK.intro (tr := [39]) mixed (by kernel_rfl) (fun i : Nat => [(1, .int .i64 s), (6, .osl 0 0 n (some n) 15), (7, .sl 4 ((keysL s l i).map encY) .own), (13, .osl 0 0 n (some n) 15), (14, .int .i64 n), (15, .int .i64 i)]) (fun i => [rowC cellsA (advL s l i)]) (fun i => i ≤ n) (fun i => n - i) 0 ?_ ?_ ?_
  · simp
  · simp [advL, keysL]
    exact eA.rowLe 1 l
  · rintro i h1
    by_cases hi : i < n
    · obtain ⟨x, hx, _⟩ := get_drop (l := l) (i := i) (by omega)
      obtain ⟨g1, g2, g3⟩ := adv_next (s := s) hx
      obtain ⟨a1, a2⟩ := ha x (List.mem_of_getElem? hx)
      obtain ⟨k1, k2, k3, k4⟩ := age_calc (s := s) a1 a2
      have hag := rowA_age g1
      have hhd := rowA_hdr g1
      have hadv : advA s x = { x with H := { x.H with Age := ageS s x.H.Age } } := rfl
      rw [hadv, k4] at g2
      have hse := rowA_set g1 (if 3600 < x.H.Age + clS s then 3600 else x.H.Age + clS s)
      rw [g2] at hse
      have h62 := fun H => (c25 x.H).up' H rfl rfl
      have hke : encY (keyH x.H) = encY (keyA x) := rfl
      rw [hke] at h62
      have w0 : IntKind.i64.wrap (x.H.Age + clS s) = x.H.Age + clS s := wrap_in (by omega)
      have hcs : (if 3600 < if s < 0 then 0 else s then 3600 else if s < 0 then 0 else s) = clS s := rfl
      have w1 : IntKind.i64.wrap ((i : Int) + 1) = i + 1 := wrap_in (by omega)
      have hag' : aload (some (false, 1)) (rowC cellsA (advL s l i)) (i * 15 + 5) = some (.int .i64 x.H.Age) := by simp only [aload, hag]; rfl
      have hfl := eA.rowLen (advL s l i)
      have hal : (advL s l i).length = n := by simp [advL]; omega
      rw [hal] at hfl
      have hfit : i * 15 + 5 + 1 ≤ n * 15 := by omega
      have hle := eA.rowLe 1 (advL s l (i + 1))
      have hkl : (keysL s l i).length ≤ i := by
        have := List.length_filter_le (fun x => expS s x.H.Age) (l.take i)
        simp only [keysL, List.length_map]
        simp at this
        omega
      have s1 : (keysL s l i).length + 1 ≤ 140737488355328 := by omega
      have s2 : ((keysL s l i).length + 1) * 32 ≤ 140737488355328 := by omega
      clear g1 g2 hal hadv a1 a2 ha hag hkl
      generalize keysL s l i = K at g3 s1 s2 ⊢
      generalize advL s l i = A at hse hhd hag' hfl ⊢
      simp [hi, hag', hcs, w0, -aload]
      generalize clS s = c at k1 k2 k3 k4 hcs w0 hse ⊢
      by_cases hA : 3600 ≤ x.H.Age + c
      · by_cases hB : x.H.Age < 3600
        · rw [if_pos (k3.2 ⟨hA, hB⟩)] at g3
          simp [hA, hB, hhd, -aload]
          refine ⟨_, _, .inl (by simpa using h62 _), by simp, ?_⟩
          simp [hi, hfl, hfit, hse, s1, s2, w1, -aload]
          exact ⟨i + 1, by omega, by omega, by simp [g3, hle]⟩
        · rw [if_neg (fun h => hB (k3.1 h).2), List.append_nil] at g3
          simp [hA, hB, hi, hfl, hfit, hse, w1, -aload]
          exact ⟨i + 1, by omega, by omega, by simp [g3, hle]⟩
      · rw [if_neg (fun h => hA (k3.1 h).1), List.append_nil] at g3
        simp [hA, hi, hfl, hfit, hse, w1, -aload]
        exact ⟨i + 1, by omega, by omega, by simp [g3, hle]⟩
    · have : i = n := by omega
      subst this
      have e1 : advL s l i = (advD l s).1 := by simp [advL, advD, List.take_of_length_le (show l.length ≤ i by omega), List.drop_of_length_le (show l.length ≤ i by omega)]
      have e2 : keysL s l i = (advD l s).2 := by simp [keysL, advD, List.take_of_length_le (show l.length ≤ i by omega)]
      have hl2 : (advD l s).1.length = i := by simp [advD, hn]
      rw [e1, e2]
      have hch := eA.chunk (advD l s).1 i hl2
      have htr := eA.rowTree (advD l s).1
      have hL := eA.rowLen (advD l s).1
      rw [hl2] at hL
      have htk : (rowC cellsA (advD l s).1).take (i * 15) = rowC cellsA (advD l s).1 := List.take_of_length_le (by omega)
      generalize advD l s = A at *
      simp [hL, htk, hch, htr, h0, -List.all_eq_true, -encA, -encY]
      exact fun _ _ => rfl
set_option maxHeartbeats 2000000 in
set_option maxRecDepth 10000 in
theorem f29z (s : Int) : CFun Try.prog 29 [.sl 15 [] .sh, .int .i64 s] [] (.tup [.sl 15 [] .sh, .sl 4 [] .sh]) [] := by
  refine CFun.intro (tr := []) (fz := []) (n := 54) (rs := [.tmp 4, .tmp 5]) Try.func29 rfl (by kernel_rfl) rfl rfl mixed (by kernel_rfl) (by simp) (by simp) ?_
  simp
  refine ⟨_, _, .inl (by simpa using f84z), by simp, ?_⟩
  simp
  refine LoopK.intro (tr := []) mixed (by kernel_rfl) (fun _ : Nat => [(6, .sl 15 [] .full), (7, .sl 4 [] .own), (14, .int .i64 0), (15, .int .i64 0)]) (fun _ => []) (fun _ => True) (fun _ => 0) 0 ?_ ?_ ?_
  · simp
  · simp
  · rintro i _
    simp
end Go.Proofs.Ytmgkemffbmfmpaa

namespace Go.Proofs.Ytmgkemffbmfmpaa
open Go Go.Am

def advT (s : Int) (l : List Lsa) (i : Nat) : List Lsa := (l.take i).map (advA s)
theorem adv_take {s : Int} {l : List Lsa} {i : Nat} {x : Lsa} (h : l[i]? = some x) : advT s l (i + 1) = advT s l i ++ [advA s x] ∧ keysL s l (i + 1) = keysL s l i ++ (if expS s x.H.Age = true then [keyA x] else []) := by
  have ht : l.take (i + 1) = l.take i ++ [x] := by rw [List.take_add_one, h]; rfl
  exact ⟨by unfold advT; rw [ht]; simp, (adv_next h).2.2⟩
-- routingref25.Advance
set_option maxHeartbeats 2000000 in
set_option maxRecDepth 10000 in
theorem f30 (l : List Lsa) (n : Nat) (hn : l.length = n) (hlen : n < 1000000000) (ha : ∀ x ∈ l, 0 ≤ x.H.Age ∧ x.H.Age ≤ 3600) (s : Int) (hs : inI s) : CFun Try.prog 30 [.sl 15 (l.map encA) .sh, .int .i64 s] [] (.tup [.sl 15 ((advD l s).1.map encA) .sh, .sl 4 ((advD l s).2.map encY) .sh]) [] := by
  refine CFun.intro (tr := [38, 51]) (fz := []) (n := 57) (rs := [.tmp 4, .tmp 5]) Try.func30 rfl (by kernel_rfl) rfl rfl mixed (by kernel_rfl) (by simp) (by simp) ?_
  simp
  refine LoopK.intro (tr := [38, 51]) mixed (by kernel_rfl) (fun i : Nat => [(0, .sl 15 (l.map encA) .sh), (1, .int .i64 s), (6, .sl 15 ((advT s l i).map encA) .own), (7, .sl 4 ((keysL s l i).map encY) .own), (8, .int .i64 i)]) (fun _ => []) (fun i => i ≤ n) (fun i => n - i) 0 ?_ ?_ ?_
  · simp
  · simp [keysL, advT]
  · rintro i h1
    by_cases hi : i < n
    · obtain ⟨x, hx, _⟩ := get_drop (l := l) (i := i) (by omega)
      obtain ⟨g2, g3⟩ := adv_take (s := s) hx
      obtain ⟨a1, a2⟩ := ha x (List.mem_of_getElem? hx)
      have h62 := fun H => (c26 { x.H with Age := 3600 }).up' H rfl rfl
      have w1 : IntKind.i64.wrap ((i : Int) + 1) = i + 1 := wrap_in (by omega)
      have hkl : (keysL s l i).length ≤ i := by
        have := List.length_filter_le (fun x => expS s x.H.Age) (l.take i)
        simp only [keysL, List.length_map]
        simp at this
        omega
      have s1 : (keysL s l i).length + 1 ≤ 140737488355328 := by omega
      have s2 : ((keysL s l i).length + 1) * 32 ≤ 140737488355328 := by omega
      have hll : (advT s l i).length = i := by simp [advT]; omega
      have s3 : i + 1 ≤ 140737488355328 := by omega
      have s4 : (i + 1) * 136 ≤ 140737488355328 := by omega
      have m1 : min i n = i := Nat.min_eq_left (Nat.le_of_lt hi)
      clear ha hkl
      generalize keysL s l i = K at g3 s1 s2 ⊢
      generalize advT s l i = A at hll g2 ⊢
      have hke : encY (keyH { x.H with Age := 3600 }) = encY (keyA x) := rfl
      rw [hke] at h62
      by_cases p1 : 0 < s
      · by_cases p2 : x.H.Age < 3600
        · have w2 : IntKind.i64.wrap (3600 - x.H.Age) = 3600 - x.H.Age := wrap_in (by omega)
          by_cases p3 : 3600 - x.H.Age ≤ s
          · have hA : advA s x = { x with H := { x.H with Age := 3600 } } := by simp [advA, ageS, p1, p2, p3]
            have hE : expS s x.H.Age = true := by simp [expS, p1, p2, p3]
            rw [hE] at g3
            rw [hA] at g2
            generalize keyA x = k at h62 g3
            simp [hn, hi, hx, gE hx, p1, p2, p3, w2]
            refine ⟨_, _, .inl (by simpa using h62 _), by simp, ?_⟩
            simp [s1, s2, s3, s4, hll, w1]
            exact ⟨i + 1, by omega, by omega, by simp [g2, g3]⟩
          · have w3 : IntKind.i64.wrap (x.H.Age + s) = x.H.Age + s := wrap_in (by omega)
            have hA : advA s x = { x with H := { x.H with Age := x.H.Age + s } } := by simp [advA, ageS, p1, p2, p3]
            have hE : expS s x.H.Age = false := by simp [expS, p1, p2, p3]
            rw [hE] at g3
            rw [hA] at g2
            simp at g3
            simp [hn, hi, hx, gE hx, p1, p2, p3, w2, w3, s3, s4, hll, w1]
            exact ⟨i + 1, by omega, by omega, by simp [g2, g3]⟩
        · have hA : advA s x = x := by simp [advA, ageS, p2]
          have hE : expS s x.H.Age = false := by simp [expS, p2]
          rw [hE] at g3
          rw [hA] at g2
          simp at g3
          simp [hn, hi, hx, gE hx, p1, p2, s3, s4, hll, w1]
          exact ⟨i + 1, by omega, by omega, by simp [g2, g3]⟩
      · have hA : advA s x = x := by simp [advA, ageS, p1]
        have hE : expS s x.H.Age = false := by simp [expS, p1]
        rw [hE] at g3
        rw [hA] at g2
        simp at g3
        simp [hn, hi, hx, gE hx, p1, s3, s4, hll, w1]
        exact ⟨i + 1, by omega, by omega, by simp [g2, g3]⟩
    · have : i = n := by omega
      subst this
      have e1 : advT s l i = (advD l s).1 := by simp [advT, advD, List.take_of_length_le (show l.length ≤ i by omega)]
      have e2 : keysL s l i = (advD l s).2 := by simp [keysL, advD, List.take_of_length_le (show l.length ≤ i by omega)]
      rw [e1, e2]
      generalize advD l s = A
      simp [hn]
theorem adv_ (l : List Lsa) (hlen : l.length < 1000000000) (ok : ∀ x ∈ l, okL x) (ha : ∀ x ∈ l, 0 ≤ x.H.Age ∧ x.H.Age ≤ 3600) (s : Int) : CFun Try.prog 29 [.sl 15 (l.map encA) .sh, .int .i64 s] [] (.tup [.sl 15 ((advD l s).1.map encA) .sh, .sl 4 ((advD l s).2.map encY) .sh]) [] := by
  by_cases h : l = []
  · subst h; exact f29z s
  · exact f29 l _ rfl (List.length_pos_iff.2 h) hlen ok ha s
/-! A valid database. -/
theorem sealE_ok {x : Lsa} (h : sealE x = 0) : chkA x = 0 ∧ x.H.Sum = sumA x := by
  unfold sealE at h
  split at h
  · rename_i h1; exact (h1 h).elim
  · rename_i h1
    split at h
    · cases h
    · rename_i h2
      exact ⟨Decidable.not_not.1 h1, Decidable.not_not.1 h2⟩
theorem sealE_of {x : Lsa} (h1 : chkA x = 0) (h2 : x.H.Sum = sumA x) : sealE x = 0 := by
  simp [sealE, h1, ← h2]
theorem sealE_age {x : Lsa} (h : sealE x = 0) : 0 ≤ x.H.Age ∧ x.H.Age ≤ 3600 := by
  obtain ⟨_, _, _, f3, _⟩ := chkH_ok (chkA_parts (sealE_ok h).1).1
  exact f3
theorem sealE_adv {x : Lsa} (ok : okA x) (h : sealE x = 0) {s : Int} (hs : 0 ≤ s) : sealE (advA s x) = 0 := by
  obtain ⟨h1, h2⟩ := sealE_ok h
  have ha := sealE_age h
  have hz : 0 ≤ ageS s x.H.Age ∧ ageS s x.H.Age ≤ 3600 := by
    unfold ageS
    split
    · split <;> omega
    · exact ha
  obtain ⟨_, q2, q3⟩ := sealed_age ok h1 hz
  have e : withSA x (sumA x) (ageS s x.H.Age) = advA s x := by rw [← h2]; rfl
  rw [e] at q2 q3
  exact sealE_of q2 q3
theorem adv_age {x : Lsa} (ha : 0 ≤ x.H.Age ∧ x.H.Age ≤ 3600) {s : Int} (hs : 0 ≤ s) : 0 ≤ (advA s x).H.Age ∧ (advA s x).H.Age ≤ 3600 := by
  show 0 ≤ ageS s x.H.Age ∧ ageS s x.H.Age ≤ 3600
  unfold ageS
  split
  · split <;> omega
  · exact ha
end Go.Proofs.Ytmgkemffbmfmpaa

namespace Go.Proofs.Ytmgkemffbmfmpaa
open Go Go.Am

theorem okL_of {l : Lsa} (h : okD l) : okL l := ⟨h.2.1, h.2.2⟩
theorem okP_of {l : Lsa} (h : okD l) : okP l := by
  obtain ⟨_, a, b⟩ := h
  exact ⟨by omega, by omega⟩
/-! What the example of the document brings. -/
def lz : Lsa := ⟨⟨3, 167772160, 8, 1, 4, 3500, 0⟩, false, false, [], [], 7, false, 0, 0⟩
theorem lz_ok : okA lz := by simp [okA, okH, lz, inI, inW]
theorem lz_chk : chkA lz = 0 := by decide +kernel
theorem lz_seal : ∃ b : Lsa, sealL lz = (b, 0) ∧ sealE b = 0 ∧ okA b ∧ okL b ∧ b.H.Age = 3500 := by
  obtain ⟨h1, h2, h3⟩ := sealed_seal lz_ok lz_chk
  exact ⟨sealA lz, by simp [sealL, lz_chk], sealE_of h2 h3, h1, by simp [okL, sealA, lz], rfl⟩
theorem put0 {b : Lsa} (h : sealE b = 0) : putD [] b = ([b], 0) := by
  simp [putD, h, putR, fndD, posD, posF, insL]
-- routinglaw25.lives
set_option maxHeartbeats 2000000 in
set_option maxRecDepth 10000 in
theorem f25 : CFun Try.prog 25 [] [] (.bool true) [] := by
  refine CFun.intro (tr := []) (fz := []) (n := 95) (rs := [.tmp 0]) Try.func25 rfl (by kernel_rfl) rfl rfl mixed (by kernel_rfl) (by simp) (by simp) ?_
  obtain ⟨b, e1, e2, e3, e4, e5⟩ := lz_seal
  have a1 : ∀ H cs, All2 LeC cs (cellsA lz) → CFun Try.prog 80 [.agg cs] H (.tup [encA b, .int .i64 0]) H := by
    intro H cs h
    have := ((c19 lz lz_ok).wk [.agg cs] (by simp) ⟨h, trivial⟩).up' H rfl rfl
    rwa [e1] at this
  have a2 := fun H => ((f26 [] 0 rfl (by omega) (by simp [asc]) (by simp) b e4).wk [.sl 0 [] .full, encA b] (by simp) (by simp)).up' H rfl rfl
  rw [put0 e2] at a2
  have a3 := fun H => (adv_ [b] (by simp) (by simpa using e4) (by simp [e5]) 50).up' H rfl rfl
  have q3 : advD [b] 50 = ([{ b with H := { b.H with Age := 3550 } }], []) := by simp [advD, advA, ageS, expS, e5]
  rw [q3] at a3
  have a4 := fun H => (adv_ [{ b with H := { b.H with Age := 3550 } }] (by simp) (by simpa [okL] using e4) (by simp) 100).up' H rfl rfl
  have q4 : advD [{ b with H := { b.H with Age := 3550 } }] 100 = ([{ b with H := { b.H with Age := 3600 } }], [keyA b]) := by simp [advD, advA, ageS, expS, keyA, keyH]
  rw [q4] at a4
  have a5 := fun H => (adv_ [{ b with H := { b.H with Age := 3600 } }] (by simp) (by simpa [okL] using e4) (by simp) 10).up' H rfl rfl
  have q5 : advD [{ b with H := { b.H with Age := 3600 } }] 10 = ([{ b with H := { b.H with Age := 3600 } }], []) := by simp [advD, advA, ageS, expS]
  rw [q5] at a5
  have a6 := fun H => ((f36 [] 0 rfl (by omega) (by simp) b.H).wk [.sl 0 [] .full, encH b.H] (by simp) (by simp)).up' H rfl rfl
  have q6 : cmpD [] b.H = 1 := rfl
  rw [q6] at a6
  clear q3 q4 q5 q6 e1 e2 e3 e4
  generalize keyA b = k at a4
  simp
  refine ⟨_, _, .inl (a1 _ _ (by simp [lz])), by simp, ?_⟩
  simp
  refine ⟨_, _, .inl (by simpa using a2 _), by simp, ?_⟩
  simp
  refine ⟨_, _, .inl (by simpa using a3 _), by simp, ?_⟩
  simp
  refine ⟨_, _, .inl (by simpa using a4 _), by simp, ?_⟩
  simp
  refine ⟨_, _, .inl (by simpa using a5 _), by simp, ?_⟩
  simp
  refine ⟨_, _, .inl (by simpa using a6 _), by simp, ?_⟩
  simp
-- LsdbChecks
set_option maxHeartbeats 2000000 in
set_option maxRecDepth 10000 in
theorem g8 (db : List Lsa) (hl : db.length < 1099511627776) (ok : ∀ x ∈ db, okD x) : CFun Try.prog 8 [.sl 15 (db.map encA) .sh] [] (.bool true) [] := by
  refine CFun.intro (tr := []) (fz := []) (n := 11) (rs := [.tmp 2]) Try.func8 rfl (by kernel_rfl) rfl rfl mixed (by kernel_rfl) (by simp) (by simp) ?_
  have h1 := fun H => (f32 db _ rfl hl).up' H rfl rfl
  have h2 := fun H => (f24 db _ rfl hl (fun x hx => (ok x hx).1)).up' H rfl rfl
  have h0 := fun H => f25.up' H rfl rfl
  simp
  refine ⟨_, _, .inl (by simpa using h1 _), by simp, ?_⟩
  simp
  refine ⟨_, _, .inl (by simpa using h2 _), by simp, ?_⟩
  simp
  refine ⟨_, _, .inl (by simpa using h0 _), by simp, ?_⟩
  simp
theorem put_mem {db : List Lsa} {l x : Lsa} (h : x ∈ (putD db l).1) : x = l ∨ x ∈ db := by
  unfold putD at h
  split at h
  · cases h
  · split at h
    · cases h
    · simp only [putR] at h
      split at h
      · rcases List.mem_or_eq_of_mem_set h with h | h
        · exact .inr h
        · exact .inl h
      · simp only [insL, List.mem_append, List.mem_cons] at h
        rcases h with h | h | h
        · exact .inr (List.mem_of_mem_take h)
        · exact .inl h
        · exact .inr (List.mem_of_mem_drop h)
theorem put_len (db : List Lsa) (l : Lsa) : (putD db l).1.length ≤ db.length + 1 := by
  unfold putD
  split
  · simp
  · split
    · simp
    · simp only [putR]
      split
      · simp
      · exact Nat.le_of_eq (insL_len (pos_le db (keyA l)))
-- LsdbPuts
set_option maxHeartbeats 2000000 in
set_option maxRecDepth 10000 in
theorem g6 (db : List Lsa) (hl : db.length < 1099511627776) (ok : ∀ x ∈ db, okD x) (l : Lsa) (okl : okD l) : CFun Try.prog 6 [.sl 15 (db.map encA) .sh, encA l] [] (.bool true) [] := by
  refine CFun.intro (tr := []) (fz := []) (n := 36) (rs := [.tmp 4]) Try.func6 rfl (by kernel_rfl) rfl rfl mixed (by kernel_rfl) (by simp) (by simp) ?_
  have h1 := fun H => (f24 db _ rfl hl (fun x hx => (ok x hx).1)).up' H rfl rfl
  have h0 := fun H => f25.up' H rfl rfl
  simp
  refine ⟨_, _, .inl (by simpa using h1 _), by simp, ?_⟩
  by_cases e : chkD db = 0
  case neg =>
    simp [e]
    refine ⟨_, _, .inl (by simpa using h0 _), by simp, ?_⟩
    simp
  obtain ⟨v1, _, v3⟩ := chkD_ok e
  have h2 := fun H => (f26 db _ rfl (by omega) v3 (fun x hx => okL_of (ok x hx)) l (okL_of okl)).up' H rfl rfl
  have h3 := fun H => (f27 db _ rfl (by omega) v3 l okl.1).up' H rfl rfl
  have hp := put_len db l
  have h4 := fun H => (f28 (putD db l).1 (putD db l).1 _ _ rfl rfl (by omega) (fun x hx => by
    rcases put_mem hx with rfl | hx
    · exact okP_of okl
    · exact okP_of (ok x hx))).up' H rfl rfl
  clear v1 v3 hp
  generalize putD db l = q at h2 h3 h4
  simp only [decide_true] at h4
  simp [e]
  refine ⟨_, _, .inl (by simpa using h2 _), by simp, ?_⟩
  simp
  refine ⟨_, _, .inl (by simpa using h3 _), by simp, ?_⟩
  simp
  refine ⟨_, _, .inl (by simpa using h4 _), by simp, ?_⟩
  simp
  refine ⟨_, _, .inl (by simpa using h0 _), by simp, ?_⟩
  simp
-- LsdbAdvances
set_option maxHeartbeats 2000000 in
set_option maxRecDepth 10000 in
theorem g7 (db : List Lsa) (hl : db.length < 1099511627776) (ok : ∀ x ∈ db, okD x) (s : Int) (hs : inI s) : CFun Try.prog 7 [.sl 15 (db.map encA) .sh, .int .i64 s] [] (.bool true) [] := by
  refine CFun.intro (tr := []) (fz := []) (n := 36) (rs := [.tmp 4]) Try.func7 rfl (by kernel_rfl) rfl rfl mixed (by kernel_rfl) (by simp) (by simp) ?_
  have h1 := fun H => (f24 db _ rfl hl (fun x hx => (ok x hx).1)).up' H rfl rfl
  have h0 := fun H => f25.up' H rfl rfl
  simp
  refine ⟨_, _, .inl (by simpa using h1 _), by simp, ?_⟩
  by_cases e : chkD db = 0
  case neg =>
    simp [e]
    refine ⟨_, _, .inl (by simpa using h0 _), by simp, ?_⟩
    simp
  obtain ⟨v1, v2, v3⟩ := chkD_ok e
  have h2 := fun H => (adv_ db (by omega) (fun x hx => okL_of (ok x hx)) (fun x hx => sealE_age (v2 x hx)) s).up' H rfl rfl
  have h3 := fun H => (f30 db _ rfl (by omega) (fun x hx => sealE_age (v2 x hx)) s hs).up' H rfl rfl
  have hp : (advD db s).1.length = db.length := by simp [advD]
  have hp2 : (advD db s).2.length ≤ db.length := by
    have := List.length_filter_le (fun l : Lsa => expS s l.H.Age) db
    simpa [advD] using this
  have h4 := fun H => (f28 (advD db s).1 (advD db s).1 _ _ rfl rfl (by omega) (fun x hx => by
    obtain ⟨y, hy, rfl⟩ := List.mem_map.1 hx
    have h := okP_of (ok y hy)
    exact h)).up' H rfl rfl
  have h5 := fun H => (f31 (advD db s).2 (advD db s).2 _ _ rfl rfl (by omega)).up' H rfl rfl
  clear v1 v2 v3 hp hp2
  generalize advD db s = q at h2 h3 h4 h5
  simp only [decide_true] at h4 h5
  simp [e]
  refine ⟨_, _, .inl (by simpa using h2 _), by simp, ?_⟩
  simp
  refine ⟨_, _, .inl (by simpa using h3 _), by simp, ?_⟩
  simp
  refine ⟨_, _, .inl (by simpa using h4 _), by simp, ?_⟩
  simp
  refine ⟨_, _, .inl (by simpa using h5 _), by simp, ?_⟩
  simp
  refine ⟨_, _, .inl (by simpa using h0 _), by simp, ?_⟩
  simp
-- LsdbAges
set_option maxHeartbeats 2000000 in
set_option maxRecDepth 10000 in
theorem g10 (db : List Lsa) (hl : db.length < 1099511627776) (ok : ∀ x ∈ db, okD x) (a b : Int) : CFun Try.prog 10 [.sl 15 (db.map encA) .sh, .int .i64 a, .int .i64 b] [] (.bool true) [] := by
  refine CFun.intro (tr := []) (fz := []) (n := 74) (rs := [.tmp 6]) Try.func10 rfl (by kernel_rfl) rfl rfl mixed (by kernel_rfl) (by simp) (by simp) ?_
  have h1 := fun H => (f32 db _ rfl hl).up' H rfl rfl
  have h0 := fun H => f25.up' H rfl rfl
  simp
  refine ⟨_, _, .inl (by simpa using h1 _), by simp, ?_⟩
  by_cases e : chkD db = 0
  case neg =>
    simp [e]
    refine ⟨_, _, .inl (by simpa using h0 _), by simp, ?_⟩
    simp
  by_cases p1 : a < 0
  · simp [e, p1]
    refine ⟨_, _, .inl (by simpa using h0 _), by simp, ?_⟩
    simp
  by_cases p2 : b < 0
  · simp [e, p1, p2]
    refine ⟨_, _, .inl (by simpa using h0 _), by simp, ?_⟩
    simp
  by_cases p3 : 100000 < a
  · simp [e, p1, p2, p3]
    refine ⟨_, _, .inl (by simpa using h0 _), by simp, ?_⟩
    simp
  by_cases p4 : 100000 < b
  · simp [e, p1, p2, p3, p4]
    refine ⟨_, _, .inl (by simpa using h0 _), by simp, ?_⟩
    simp
  obtain ⟨v1, v2, v3⟩ := chkD_ok e
  have w0 : IntKind.i64.wrap (a + b) = a + b := wrap_in (by omega)
  have hage : ∀ x ∈ db, 0 ≤ x.H.Age ∧ x.H.Age ≤ 3600 := fun x hx => sealE_age (v2 x hx)
  have hage2 : ∀ x ∈ (advD db a).1, 0 ≤ x.H.Age ∧ x.H.Age ≤ 3600 := fun x hx => by
    obtain ⟨y, hy, rfl⟩ := List.mem_map.1 hx
    exact adv_age (hage y hy) (by omega)
  have hok2 : ∀ s, ∀ x ∈ (advD db s).1, okL x ∧ okP x := fun s x hx => by
    obtain ⟨y, hy, rfl⟩ := List.mem_map.1 hx
    have h := okP_of (ok y hy)
    have h' := okL_of (ok y hy)
    exact ⟨h', h⟩
  have hlen : ∀ s, (advD db s).1.length = db.length := fun s => by simp [advD]
  have hk : ∀ (d : List Lsa) s, (advD d s).2.length ≤ d.length := fun d s => by
    have := List.length_filter_le (fun l : Lsa => expS s l.H.Age) d
    simpa [advD] using this
  obtain ⟨t1, t2⟩ := adv_twice (show 0 ≤ a by omega) (show 0 ≤ b by omega) (db := db) (fun x hx => (hage x hx).2)
  have h2 := fun H => (adv_ db (by omega) (fun x hx => okL_of (ok x hx)) hage a).up' H rfl rfl
  have h3 := fun H => (adv_ (advD db a).1 (by rw [hlen]; omega) (fun x hx => (hok2 a x hx).1) hage2 b).up' H rfl rfl
  have h4 := fun H => (adv_ db (by omega) (fun x hx => okL_of (ok x hx)) hage (a + b)).up' H rfl rfl
  rw [t1] at h3
  have h5 := fun H => (f28 (advD db (a + b)).1 (advD db (a + b)).1 _ _ rfl rfl (by rw [hlen]; omega) (fun x hx => (hok2 _ x hx).2)).up' H rfl rfl
  simp only [decide_true] at h5
  have hv : chkD (advD db (a + b)).1 = 0 := chkD_of (by rw [hlen]; exact v1) (fun x hx => by
    obtain ⟨y, hy, rfl⟩ := List.mem_map.1 hx
    exact sealE_adv (ok y hy).1 (v2 y hy) (by omega)) (asc_adv v3 _)
  have h6 := fun H => (f32 (advD db (a + b)).1 _ rfl (by rw [hlen]; omega)).up' H rfl rfl
  rw [hv] at h6
  have hka := hk db a
  have hkb := hk (advD db a).1 b
  rw [hlen] at hkb
  have t2' : ((advD db a).2.length : Int) + (advD (advD db a).1 b).2.length = (advD db (a + b)).2.length := by exact_mod_cast t2
  have w1 : IntKind.i64.wrap (((advD db a).2.length : Int) + (advD (advD db a).1 b).2.length) = (advD db (a + b)).2.length := by rw [wrap_in (by omega)]; exact t2'
  clear v1 v2 v3 hage hage2 hok2 hlen hk t1 t2 t2' hka hkb hv
  generalize (advD (advD db a).1 b).2 = k2 at h3 w1
  generalize advD db (a + b) = z at h3 h4 h5 h6 w1
  generalize advD db a = y at h2 h3 w1
  simp [e, p1, p2, p3, p4]
  refine ⟨_, _, .inl (by simpa using h2 _), by simp, ?_⟩
  simp
  refine ⟨_, _, .inl (by simpa using h3 _), by simp, ?_⟩
  simp [w0]
  refine ⟨_, _, .inl (by simpa using h4 _), by simp, ?_⟩
  simp
  refine ⟨_, _, .inl (by simpa using h5 _), by simp, ?_⟩
  simp [w1]
  refine ⟨_, _, .inl (by simpa using h6 _), by simp, ?_⟩
  simp
  refine ⟨_, _, .inl (by simpa using h0 _), by simp, ?_⟩
  simp
end Go.Proofs.Ytmgkemffbmfmpaa
