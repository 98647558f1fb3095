/- The abstract machine, part twenty-five: rows of elements, all of one number of cells. -/
import Derived.Test.YthonenmafbpbkaaBmX
namespace Go.Am
open Go
theorem LeC_refl (x : AVal) : LeC x x := by
 cases x with
 | sl k xs m => exact ⟨rfl, .inl ⟨rfl, rfl⟩⟩
 | _ => rfl
theorem All2_refl {α : Type} {r : α → α → Prop} (h : ∀ x, r x x) : ∀ l : List α, All2 r l l
 | [] => trivial
 | x :: l => ⟨h x, All2_refl h l⟩
theorem LeS_refl (x : AVal) : LeS x x := by
 cases x with
 | undef => trivial
 | agg cs => exact All2_refl LeC_refl cs
 | mix cs => exact All2_refl LeC_refl cs
 | sl k xs m => exact ⟨rfl, .inl ⟨rfl, rfl⟩⟩
 | _ => rfl
theorem LeV_refl (x : AVal) : LeV x x := by
 cases x with
 | tup vs => exact All2_refl LeS_refl vs
 | _ => unfold LeV; exact LeS_refl _
structure Enc {α : Type} (ce : α → List AVal) (k : Nat) : Prop where
  pos : 0 < k
  len : ∀ x, (ce x).length = k
  dis : ∀ x, (ce x).map AVal.dis = ce x
  tree : ∀ x, (ce x).all AVal.tree = true
section
variable {α : Type} {ce : α → List AVal} {k : Nat}
def rowC (ce : α → List AVal) (l : List α) : List AVal := l.flatMap ce
theorem rowC_cons (x : α) (l : List α) : rowC ce (x :: l) = ce x ++ rowC ce l := rfl
theorem Enc.rowLen (E : Enc ce k) (l : List α) : (rowC ce l).length = l.length * k := by
 induction l with
 | nil => simp [rowC]
 | cons x l ih => rw [rowC_cons, List.length_append, ih, E.len, List.length_cons, Nat.succ_mul]; omega
theorem Enc.rowDrop (E : Enc ce k) (l : List α) (i : Nat) : (rowC ce l).drop (i * k) = rowC ce (l.drop i) := by
 induction i generalizing l with
 | zero => simp
 | succ i ih =>
   cases l with
   | nil => simp [rowC]
   | cons b l =>
     have e : (i + 1) * k = (ce b).length + i * k := by rw [E.len, Nat.succ_mul]; omega
     rw [e, ← List.drop_drop, rowC_cons, List.drop_left, ih]
     rfl
theorem Enc.rowAt (E : Enc ce k) {l : List α} {i : Nat} {x : α} (h : l[i]? = some x) (rest : List AVal) : ((rowC ce l ++ rest).drop (i * k)).take k = ce x ∧ i * k + k ≤ (rowC ce l ++ rest).length := by
 have hi : i < l.length := (List.getElem?_eq_some_iff.1 h).1
 have hd : l.drop i = x :: l.drop (i + 1) := by
   rw [List.drop_eq_getElem_cons hi]
   congr 1
   rw [List.getElem?_eq_getElem hi] at h
   injection h
 have hl : i * k + k ≤ (rowC ce l).length := by rw [E.rowLen, ← Nat.succ_mul]; exact Nat.mul_le_mul_right _ hi
 refine ⟨?_, by rw [List.length_append]; omega⟩
 rw [List.drop_append_of_le_length (by omega), E.rowDrop, hd, rowC_cons, List.append_assoc, List.take_append_of_le_length (by rw [E.len]; exact Nat.le_refl _), List.take_of_length_le (by rw [E.len]; exact Nat.le_refl _)]
theorem Enc.load (E : Enc ce k) {l : List α} {i : Nat} {x : α} (h : l[i]? = some x) (rest : List AVal) : aload (some (true, k)) (rowC ce l ++ rest) (i * k) = some (.agg (ce x)) := by
 obtain ⟨e, hl⟩ := E.rowAt h rest
 simp only [aload]
 rw [e, if_pos ⟨E.pos, hl, E.tree x⟩, E.dis]
end
theorem get_drop {α : Type} {l : List α} {i : Nat} (hi : i < l.length) : ∃ x, l[i]? = some x ∧ l.drop i = x :: l.drop (i + 1) :=
 ⟨l[i], List.getElem?_eq_getElem hi, List.drop_eq_getElem_cons hi⟩
def idxL {α : Type} (p : α → Bool) : List α → Nat → Int
 | [], _ => -1
 | x :: xs, i => if p x = true then (i : Int) else idxL p xs (i + 1)
theorem idxL_find {α : Type} (p : α → Bool) (l : List α) (k : Nat) : (idxL p l k = -1 ∧ l.find? p = none ∧ ∀ x ∈ l, p x = false) ∨ ∃ i x, idxL p l k = ((k + i : Nat) : Int) ∧ l[i]? = some x ∧ l.find? p = some x ∧ p x = true ∧ ∀ y ∈ l.take i, p y = false := by
 induction l generalizing k with
 | nil => exact .inl ⟨rfl, rfl, by simp⟩
 | cons x l ih =>
   simp only [idxL, List.find?_cons]
   by_cases h : p x = true
   · exact .inr ⟨0, x, by simp [h], rfl, by simp [h], h, by simp⟩
   · simp only [h]
     rcases ih (k + 1) with ⟨h1, h2, h3⟩ | ⟨i, y, h1, h2, h3, h5, h4⟩
     · exact .inl ⟨by simpa using h1, by simpa using h2, fun y hy => by
         rcases List.mem_cons.1 hy with rfl | hy
         · simpa using h
         · exact h3 y hy⟩
     · refine .inr ⟨i + 1, y, ?_, by simpa using h2, by simpa using h3, h5, fun z hz => ?_⟩
       · have e : k + 1 + i = k + (i + 1) := by omega
         rw [e] at h1
         simpa using h1
       · simp only [List.take_succ_cons, List.mem_cons] at hz
         rcases hz with rfl | hz
         · simpa using h
         · exact h4 z hz
end Go.Am
