import Derived.Test.YtlpgadlfpigbhaaL9
set_option linter.unusedSimpArgs false
set_option linter.unusedVariables false
namespace Go.Proofs.Ytlpgadlfpigbhaa
open Go Go.Am

theorem flatB_get (l : List Bnd) (i : Nat) (b : Bnd) (h : l[i]? = some b) (j : Nat) (hj : j < 4) : (flatB l)[i * 4 + j]? = (cellsB b)[j]? := by
  have hi : i < l.length := (List.getElem?_eq_some_iff.1 h).1
  have hd : l.drop i = b :: l.drop (i + 1) := by
    rw [List.drop_eq_getElem_cons hi]
    congr 1
    rw [List.getElem?_eq_getElem hi] at h
    injection h
  rw [← List.getElem?_drop, flatB_drop, hd]
  simp only [flatB, List.flatMap_cons]
  rw [List.getElem?_append_left (by simpa [cellsB] using hj)]

/-- A binding is written into a row. -/
theorem setR_flatB (l : List Bnd) (i : Nat) (b : Bnd) (hi : i < l.length) (rest : List AVal) : setR (flatB l ++ rest) (i * 4) (cellsB b) = flatB (l.set i b) ++ rest := by
  have hc : (cellsB b).length = 4 := rfl
  have hfl := flatB_len l
  apply List.ext_getElem?
  intro q
  rw [setR_get _ _ _ _ (by rw [hc, List.length_append]; omega), hc]
  by_cases hq : q < l.length * 4
  · have hm : q % 4 < 4 := Nat.mod_lt _ (by omega)
    have hdm : q / 4 * 4 + q % 4 = q := by omega
    have hdl : q / 4 < l.length := by omega
    have hR : (flatB (l.set i b) ++ rest)[q]? = (flatB (l.set i b))[q]? := List.getElem?_append_left (by rw [flatB_len, List.length_set]; omega)
    rw [hR]
    by_cases he : q / 4 = i
    · have e1 := flatB_get (l.set i b) i b (by rw [List.getElem?_set]; simp [hi]) (q % 4) hm
      have e2 : i * 4 + q % 4 = q := by omega
      rw [e2] at e1
      rw [if_pos (by omega), e1]
      congr 1; omega
    · have hx : l[q / 4]? = some l[q / 4] := List.getElem?_eq_getElem hdl
      have e1 := flatB_get (l.set i b) (q / 4) l[q / 4] (by rw [List.getElem?_set]; simp [Ne.symm he, hx]) (q % 4) hm
      have e2 := flatB_get l (q / 4) l[q / 4] hx (q % 4) hm
      rw [hdm] at e1 e2
      rw [if_neg (by omega), List.getElem?_append_left (by omega), e1, e2]
  · have hR : (flatB (l.set i b) ++ rest)[q]? = rest[q - l.length * 4]? := by
      rw [List.getElem?_append_right (by rw [flatB_len, List.length_set]; omega), flatB_len, List.length_set]
    rw [hR, if_neg (by omega), List.getElem?_append_right (by omega), flatB_len]
end Go.Proofs.Ytlpgadlfpigbhaa
