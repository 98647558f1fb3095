/- The abstract machine, part thirty-three: the rows of a row of rows are frozen, however many there are. -/
import Derived.Test.YtgcnlmcpmocbhaaAmAE
namespace Go.Am
open Go

section
variable (n b len : Nat) (row : Nat → List AVal)
/-- A row of rows, the first j of them frozen. -/
def rowsM (j : Nat) : List AVal := (List.range n).map fun i => if i < j then .sl 1 (row i) .sh else .osl (b + 1 + i) 0 len (some len) 1
def rowsR (j : Nat) : List (List AVal) := (List.range n).map fun i => if i < j then [] else row i
/-- What freezes them, from j on. -/
def rowsF (j : Nat) : List (Nat × Nat × Bool) := (List.range' j (n - j)).map fun i => (500000 + 1000 * b + i, b + 1 + i, false)
end
theorem rowsM_get {n b len : Nat} {row : Nat → List AVal} {j i : Nat} (hi : i < n) : (rowsM n b len row j)[i]? = some (if i < j then .sl 1 (row i) .sh else .osl (b + 1 + i) 0 len (some len) 1) := by
  simp [rowsM, hi]
theorem rowsR_get {n : Nat} {row : Nat → List AVal} {j i : Nat} (hi : i < n) : (rowsR n row j)[i]? = some (if i < j then [] else row i) := by
  simp [rowsR, hi]
theorem rowsM_set {n b len : Nat} {row : Nat → List AVal} {j : Nat} : (rowsM n b len row j).set j (.sl 1 (row j) .sh) = rowsM n b len row (j + 1) := by
  apply List.ext_getElem?
  intro i
  rw [List.getElem?_set]
  by_cases hi : i < n
  · rw [rowsM_get hi, rowsM_get hi]
    by_cases e : j = i
    · subst e
      simp [rowsM, hi]
    · rw [if_neg e]
      by_cases c : i < j
      · rw [if_pos c, if_pos (by omega)]
      · rw [if_neg c, if_neg (by omega)]
  · have h1 : (rowsM n b len row j).length = n := by simp [rowsM]
    have h2 : (rowsM n b len row (j + 1)).length = n := by simp [rowsM]
    rw [List.getElem?_eq_none (l := rowsM n b len row j) (by omega), List.getElem?_eq_none (l := rowsM n b len row (j + 1)) (by omega)]
    split
    · rw [if_neg (by omega)]
    · rfl
theorem rowsR_set {n : Nat} {row : Nat → List AVal} {j : Nat} : (rowsR n row j).set j [] = rowsR n row (j + 1) := by
  apply List.ext_getElem?
  intro i
  rw [List.getElem?_set]
  by_cases hi : i < n
  · rw [rowsR_get hi, rowsR_get hi]
    by_cases e : j = i
    · subst e
      simp [rowsR, hi]
    · rw [if_neg e]
      by_cases c : i < j
      · rw [if_pos c, if_pos (by omega)]
      · rw [if_neg c, if_neg (by omega)]
  · have h1 : (rowsR n row j).length = n := by simp [rowsR]
    have h2 : (rowsR n row (j + 1)).length = n := by simp [rowsR]
    rw [List.getElem?_eq_none (l := rowsR n row j) (by omega), List.getElem?_eq_none (l := rowsR n row (j + 1)) (by omega)]
    split
    · rw [if_neg (by omega)]
    · rfl
theorem frz_rows {n b len : Nat} {row : Nat → List AVal} {pre : List (List AVal)} (hb : pre.length = b) (hn : n < 1000) (hbn : b + 1 + n < 100000) (h0 : 0 < len) (hl : ∀ i, i < n → (row i).length = len) (ht : ∀ i, i < n → (row i).all AVal.tree = true) (hc : ∀ i, i < n → chunk false (row i) 0 1 len = row i)
    (t : Nat → AVal) (l : List (Nat × Nat × Bool)) : ∀ k j, j + k = n →
    frzS (rowsF n b j ++ l) ⟨t, pre ++ rowsM n b len row j :: rowsR n row j⟩ = frzS l ⟨t, pre ++ rowsM n b len row n :: rowsR n row n⟩
  | 0, j, hj => by
    obtain rfl : j = n := by omega
    simp [rowsF]
  | k + 1, j, hj => by
    have hjn : j < n := by omega
    have e : rowsF n b j = (500000 + 1000 * b + j, b + 1 + j, false) :: rowsF n b (j + 1) := by
      unfold rowsF
      rw [show n - j = (n - (j + 1)) + 1 by omega, List.range'_succ, List.map_cons]
    have d1 : (500000 + 1000 * b + j - 500000) / 1000 = b := by omega
    have d2 : (500000 + 1000 * b + j - 500000) % 1000 = j := by omega
    have f1 : fzI (b + 1 + j) = b + 1 + j := by unfold fzI; rw [if_pos (by omega)]
    have f2 : fzF (b + 1 + j) = false := by unfold fzF; simp; omega
    have hH1 : (pre ++ rowsM n b len row j :: rowsR n row j)[b]? = some (rowsM n b len row j) := by
      rw [List.getElem?_append_right (by omega), hb]
      simp
    have hH2 : (pre ++ rowsM n b len row j :: rowsR n row j)[b + 1 + j]? = some (row j) := by
      rw [List.getElem?_append_right (by omega), hb, show b + 1 + j - b = j + 1 by omega, List.getElem?_cons_succ, rowsR_get hjn, if_neg (by omega)]
    have hM : (rowsM n b len row j)[j]? = some (.osl (b + 1 + j) 0 len (some len) 1) := by rw [rowsM_get hjn, if_neg (by omega)]
    have hz : (row j).take len = row j := List.take_of_length_le (by rw [hl j hjn]; exact Nat.le_refl _)
    rw [e, List.cons_append]
    conv => lhs; unfold frzS
    rw [if_neg (by omega)]
    simp only [d1, d2, f1, f2, hH1, hM, hH2]
    have g1 : frzN (b + 1 + j) (.osl (b + 1 + j) 0 len (some len) 1) = some (some (0 + len * 1)) := by simp [frzN]
    have g2 : frzV (b + 1 + j) (row j) false false (.osl (b + 1 + j) 0 len (some len) 1) = .sl 1 (row j) .sh := by
      simp only [frzV, frz1]
      rw [if_pos ⟨trivial, by rw [hl j hjn]; omega, by decide, .inr trivial⟩, hc j hjn]
      rfl
    simp only [g1, Option.getD_some, Nat.zero_add, Nat.mul_one, hz, g2]
    rw [if_pos ⟨by omega, by rw [hl j hjn]; exact h0, ht j hjn⟩]
    have s1 : ((pre ++ rowsM n b len row j :: rowsR n row j).set (b + 1 + j) []).set b ((rowsM n b len row j).set j (.sl 1 (row j) .sh)) = pre ++ rowsM n b len row (j + 1) :: rowsR n row (j + 1) := by
      rw [List.set_append_right _ _ (by omega), hb, show b + 1 + j - b = j + 1 by omega, List.set_cons_succ, rowsR_set, List.set_append_right _ _ (by omega), hb, Nat.sub_self, List.set_cons_zero, rowsM_set]
    rw [s1]
    exact frz_rows hb hn hbn h0 hl ht hc t l k (j + 1) (by omega)
end Go.Am
