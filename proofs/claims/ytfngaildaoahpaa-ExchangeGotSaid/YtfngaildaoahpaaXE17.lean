import Derived.Test.YtfngaildaoahpaaXE11
set_option linter.unusedSimpArgs false
set_option linter.unusedVariables false
namespace Go.Proofs.Ytfngaildaoahpaa
open Go Go.Am

-- routingref25.Keys
set_option maxHeartbeats 4000000 in
set_option maxRecDepth 10000 in
theorem f42 (a b : List Hdr) (n m : Nat) (hn : a.length = n) (hm : b.length = m) (hlen : n < 8796093022208) : CFun Try.prog 38 [.sl 7 (a.map encH) .sh, .sl 7 (b.map encH) .sh] [] (.bool (decide (a = b))) [] := by
  refine CFun.intro (tr := []) (fz := []) (n := 26) (rs := [.tmp 4]) Try.func38 rfl (by kernel_rfl) rfl rfl mixed (by kernel_rfl) (by simp) (by simp) ?_
  by_cases hnm : n = m
  case neg =>
    have : a ≠ b := by rintro rfl; exact hnm (hn.symm.trans hm)
    have hnm' : ¬ (n : Int) = m := by omega
    simp [hn, hm, hnm', this]
  subst hnm
  simp [hn, hm]
  refine LoopK.intro (tr := []) mixed (by kernel_rfl) (fun i : Nat => [(0, .sl 7 (a.map encH) .sh), (1, .sl 7 (b.map encH) .sh), (5, .int .i64 i)]) (fun _ => []) (fun i => i ≤ n ∧ (a = b ↔ a.drop i = b.drop i)) (fun i => n - i) 0 ?_ ?_ ?_
  · simp
  · simp
  · rintro i ⟨h1, h2⟩
    by_cases hi : i < n
    · obtain ⟨r, hx, hd⟩ := get_drop (l := a) (i := i) (by omega)
      obtain ⟨t, hy, he⟩ := get_drop (l := b) (i := i) (by omega)
      rw [hd, he, List.cons.injEq] at h2
      have w1 : IntKind.i64.wrap ((i : Int) + 1) = i + 1 := wrap_in (by omega)
      clear hd he
      by_cases hrt : r = t
      · subst hrt
        simp [hn, hm, hi, hx, hy, gE hx, gE hy, w1]
        exact ⟨i + 1, ⟨by omega, by simpa using h2⟩, by omega, by simp⟩
      · have hne : ¬ (a = b) := by rw [h2]; simp [hrt]
        have hor : ¬ r.Ty = t.Ty ∨ ¬ r.ID = t.ID ∨ ¬ r.Len = t.Len ∨ ¬ r.Router = t.Router ∨ ¬ r.Seq = t.Seq ∨ ¬ r.Age = t.Age ∨ ¬ r.Sum = t.Sum := by
          refine Decidable.byContradiction fun q => hrt ?_
          simp only [not_or, Decidable.not_not] at q
          cases r; cases t; simp_all
        simp [hn, hm, hi, hx, hy, gE hx, gE hy, hor, hne]
    · have e : a.drop i = [] := List.drop_of_length_le (by omega)
      have e' : b.drop i = [] := List.drop_of_length_le (by omega)
      rw [e, e'] at h2
      have : i = n := by omega
      subst this
      simp [hn, h2]
end Go.Proofs.Ytfngaildaoahpaa

namespace Go.Proofs.Ytfngaildaoahpaa
open Go Go.Am

theorem row_split {l : List Lsa} {i : Nat} {x : Lsa} (h : l[i]? = some x) : l = l.take i ++ x :: l.drop (i + 1) ∧ (l.take i).length = i := by
  have hi := (List.getElem?_eq_some_iff.1 h).1
  obtain ⟨y, hy, hd⟩ := get_drop (l := l) (i := i) hi
  rw [h] at hy
  injection hy with hy
  subst hy
  refine ⟨?_, by simp; omega⟩
  rw [← hd, List.take_append_drop]
theorem rowA_cut {l : List Lsa} {i : Nat} {x : Lsa} (h : l[i]? = some x) : ∃ A B : List AVal, rowC cellsA l = A ++ (cellsA x ++ B) ∧ A.length = i * 15 ∧ ∀ y, rowC cellsA (l.set i y) = A ++ (cellsA y ++ B) := by
  obtain ⟨e, hl⟩ := row_split h
  refine ⟨rowC cellsA (l.take i), rowC cellsA (l.drop (i + 1)), ?_, by rw [eA.rowLen, hl], fun y => ?_⟩
  · conv => lhs; rw [e]
    rw [rowC_app, rowC_cons]
  · conv => lhs; rw [e]
    rw [List.set_append_right _ _ (by omega), hl, Nat.sub_self, List.set_cons_zero, rowC_app, rowC_cons]
theorem rowA_age {l : List Lsa} {i : Nat} {x : Lsa} (h : l[i]? = some x) : (rowC cellsA l)[i * 15 + 5]? = some (.int .i64 x.H.Age) := by
  obtain ⟨A, B, e, hA, _⟩ := rowA_cut h
  rw [e, List.getElem?_append_right (by omega), show i * 15 + 5 - A.length = 5 by omega]
  rfl
theorem rowA_hdr {l : List Lsa} {i : Nat} {x : Lsa} (h : l[i]? = some x) : aload (some (true, 7)) (rowC cellsA l) (i * 15) = some (encH x.H) := by
  obtain ⟨A, B, e, hA, _⟩ := rowA_cut h
  rw [e, ← hA]
  simp only [aload, List.drop_left']
  rw [if_pos]
  · rfl
  · exact ⟨by omega, by simp, rfl⟩
theorem rowA_set {l : List Lsa} {i : Nat} {x : Lsa} (h : l[i]? = some x) (a : Int) : (rowC cellsA l).set (i * 15 + 5) (.int .i64 a) = rowC cellsA (l.set i { x with H := { x.H with Age := a } }) := by
  obtain ⟨A, B, e, hA, hs⟩ := rowA_cut h
  rw [hs, e, List.set_append_right _ _ (by omega), show i * 15 + 5 - A.length = 5 by omega]
  rfl
end Go.Proofs.Ytfngaildaoahpaa

namespace Go.Proofs.Ytfngaildaoahpaa
open Go Go.Am

/-- Half of the way. -/
def advL (s : Int) (l : List Lsa) (i : Nat) : List Lsa := (l.take i).map (advA s) ++ l.drop i
def keysL (s : Int) (l : List Lsa) (i : Nat) : List LKey := ((l.take i).filter fun x => expS s x.H.Age).map keyA
def clS (s : Int) : Int := if 3600 < (if s < 0 then 0 else s) then 3600 else if s < 0 then 0 else s
theorem adv_next {s : Int} {l : List Lsa} {i : Nat} {x : Lsa} (h : l[i]? = some x) : (advL s l i)[i]? = some x ∧ (advL s l i).set i (advA s x) = advL s l (i + 1) ∧ keysL s l (i + 1) = keysL s l i ++ (if expS s x.H.Age = true then [keyA x] else []) := by
  obtain ⟨e, hl⟩ := row_split h
  have hi := (List.getElem?_eq_some_iff.1 h).1
  have hd : l.drop i = x :: l.drop (i + 1) := by
    obtain ⟨y, hy, hd⟩ := get_drop (l := l) (i := i) hi
    rw [h] at hy
    injection hy with hy
    subst hy
    exact hd
  have ht : l.take (i + 1) = l.take i ++ [x] := by rw [List.take_add_one, h]; rfl
  have hl2 : ((l.take i).map (advA s)).length = i := by rw [List.length_map, hl]
  refine ⟨?_, ?_, ?_⟩
  · rw [advL, hd, List.getElem?_append_right (by omega), hl2, Nat.sub_self]; rfl
  · rw [advL, hd, List.set_append_right _ _ (by omega), hl2, Nat.sub_self, List.set_cons_zero, advL, ht]
    simp
  · rw [keysL, keysL, ht, List.filter_append, List.map_append]
    congr 1
    cases h : expS s x.H.Age <;> simp [h]
end Go.Proofs.Ytfngaildaoahpaa

namespace Go.Proofs.Ytfngaildaoahpaa
open Go Go.Am

theorem age_calc {s a : Int} (h0 : 0 ≤ a) (h1 : a ≤ 3600) : 0 ≤ clS s ∧ clS s ≤ 3600 ∧ (expS s a = true ↔ 3600 ≤ a + clS s ∧ a < 3600) ∧ ageS s a = if 3600 < a + clS s then 3600 else a + clS s := by
  unfold clS expS ageS
  simp only [decide_eq_true_eq]
  refine ⟨by split <;> (try split) <;> omega, by split <;> (try split) <;> omega, ?_, ?_⟩
  · split <;> (try split) <;> omega
  · split <;> (try split) <;> (try split) <;> (try split) <;> (try split) <;> omega
end Go.Proofs.Ytfngaildaoahpaa

namespace Go.Proofs.Ytfngaildaoahpaa
open Go Go.Am

-- lsdb.Advance
end Go.Proofs.Ytfngaildaoahpaa

namespace Go.Proofs.Ytfngaildaoahpaa
open Go Go.Am

def advT (s : Int) (l : List Lsa) (i : Nat) : List Lsa := (l.take i).map (advA s)
theorem adv_take {s : Int} {l : List Lsa} {i : Nat} {x : Lsa} (h : l[i]? = some x) : advT s l (i + 1) = advT s l i ++ [advA s x] ∧ keysL s l (i + 1) = keysL s l i ++ (if expS s x.H.Age = true then [keyA x] else []) := by
  have ht : l.take (i + 1) = l.take i ++ [x] := by rw [List.take_add_one, h]; rfl
  exact ⟨by unfold advT; rw [ht]; simp, (adv_next h).2.2⟩
-- routingref25.Advance
theorem sealE_ok {x : Lsa} (h : sealE x = 0) : chkA x = 0 ∧ x.H.Sum = sumA x := by
  unfold sealE at h
  split at h
  · rename_i h1; exact (h1 h).elim
  · rename_i h1
    split at h
    · cases h
    · rename_i h2
      exact ⟨Decidable.not_not.1 h1, Decidable.not_not.1 h2⟩
theorem sealE_of {x : Lsa} (h1 : chkA x = 0) (h2 : x.H.Sum = sumA x) : sealE x = 0 := by
  simp [sealE, h1, ← h2]
theorem sealE_age {x : Lsa} (h : sealE x = 0) : 0 ≤ x.H.Age ∧ x.H.Age ≤ 3600 := by
  obtain ⟨_, _, _, f3, _⟩ := chkH_ok (chkA_parts (sealE_ok h).1).1
  exact f3
theorem sealE_adv {x : Lsa} (ok : okA x) (h : sealE x = 0) {s : Int} (hs : 0 ≤ s) : sealE (advA s x) = 0 := by
  obtain ⟨h1, h2⟩ := sealE_ok h
  have ha := sealE_age h
  have hz : 0 ≤ ageS s x.H.Age ∧ ageS s x.H.Age ≤ 3600 := by
    unfold ageS
    split
    · split <;> omega
    · exact ha
  obtain ⟨_, q2, q3⟩ := sealed_age ok h1 hz
  have e : withSA x (sumA x) (ageS s x.H.Age) = advA s x := by rw [← h2]; rfl
  rw [e] at q2 q3
  exact sealE_of q2 q3
theorem adv_age {x : Lsa} (ha : 0 ≤ x.H.Age ∧ x.H.Age ≤ 3600) {s : Int} (hs : 0 ≤ s) : 0 ≤ (advA s x).H.Age ∧ (advA s x).H.Age ≤ 3600 := by
  show 0 ≤ ageS s x.H.Age ∧ ageS s x.H.Age ≤ 3600
  unfold ageS
  split
  · split <;> omega
  · exact ha
end Go.Proofs.Ytfngaildaoahpaa
