import Derived.Test.YtlpgadlfpigbhaaL10
set_option linter.unusedSimpArgs false
set_option linter.unusedVariables false
namespace Go.Proofs.Ytlpgadlfpigbhaa
open Go Go.Am

theorem idxL_spec {α : Type} (p : α → Bool) : ∀ (l : List α) (i : Nat), (idxL p l i = -1 ∧ l.filter (fun x => !p x) = l) ∨ ∃ j, idxL p l i = ((i + j : Nat) : Int) ∧ j < l.length ∧ (l.take (j + 1)).filter (fun x => !p x) = l.take j := by
  intro l
  induction l with
  | nil => intro i; left; simp [idxL]
  | cons x xs ih =>
    intro i
    by_cases h : p x = true
    · right
      exact ⟨0, by simp [idxL, h], by simp, by simp [h]⟩
    · have h' : p x = false := by simpa using h
      rcases ih (i + 1) with ⟨e1, e2⟩ | ⟨j, e1, e2, e3⟩
      · left; simp [idxL, h', e1, e2]
      · right
        refine ⟨j + 1, ?_, by simp; omega, ?_⟩
        · simp only [idxL, h', Bool.false_eq_true, if_false, e1]; congr 1; omega
        · simp [h', e3]

theorem setR_all (l : List Bnd) (i : Nat) (hi : i ≤ l.length) (k : Nat) (hk : k = (l.length - i) * 4) : setR (flatB l) (i * 4) (List.replicate k .undef) = flatB (l.take i) ++ List.replicate k .undef := by
  have hfl := flatB_len l
  have hft := flatB_len (l.take i)
  have hlt : (l.take i).length = i := by simp; omega
  apply List.ext_getElem?
  intro q
  rw [setR_get _ _ _ _ (by simp; omega)]
  simp only [List.length_replicate]
  by_cases hq : q < i * 4
  · have hR : (flatB (l.take i) ++ List.replicate k AVal.undef)[q]? = (flatB (l.take i))[q]? := List.getElem?_append_left (by omega)
    have e : flatB l = flatB (l.take i) ++ flatB (l.drop i) := by
      simp only [flatB, ← List.flatMap_append, List.take_append_drop]
    rw [hR, if_neg (by omega), e, List.getElem?_append_left (by omega)]
  · have hR : (flatB (l.take i) ++ List.replicate k AVal.undef)[q]? = (List.replicate k AVal.undef)[q - i * 4]? := by
      rw [List.getElem?_append_right (by omega), hft, hlt]
    rw [hR]
    by_cases hq2 : q < i * 4 + k
    · rw [if_pos (by omega)]
    · rw [if_neg (by omega), List.getElem?_eq_none (by omega), List.getElem?_eq_none (by simp; omega)]
end Go.Proofs.Ytlpgadlfpigbhaa
