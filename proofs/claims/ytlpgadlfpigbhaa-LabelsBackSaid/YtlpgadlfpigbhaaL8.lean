import Derived.Test.YtlpgadlfpigbhaaL7
set_option linter.unusedSimpArgs false
set_option linter.unusedVariables false
namespace Go.Proofs.Ytlpgadlfpigbhaa
open Go Go.Am

def cellsB (b : Bnd) : List AVal := [.int .u32 b.P.Addr, .int .i64 b.P.Len, .int .u32 b.Peer, .int .i64 b.Label]
/-- Bindings in a row, cell by cell. -/
def flatB (l : List Bnd) : List AVal := l.flatMap cellsB
theorem flatB_map (l : List Bnd) : (l.map encB).flatMap AVal.cells = flatB l := by
  rw [List.flatMap_map]; rfl
theorem flatB_dis (l : List Bnd) : (flatB l).map AVal.dis = flatB l := by
  induction l with
  | nil => rfl
  | cons b l ih => simp only [flatB, List.flatMap_cons, List.map_append] at ih ⊢; rw [ih]; rfl

theorem flatB_le (n : Nat) (l : List Bnd) : LeCells n (flatB l) (flatB l) := by
  induction l with
  | nil => simp [flatB]
  | cons b l ih => simp only [flatB, List.flatMap_cons, cellsB, List.cons_append, List.nil_append] at ih ⊢; simpa using ih

set_option maxHeartbeats 2000000 in
set_option maxRecDepth 10000 in
theorem c37 (l : List Bnd) (hne : l ≠ []) (hlen : l.length < 1099511627776) : CFun Try.prog 37 [.sl 4 (l.map encB) .sh] [] (.osl 0 0 l.length none 4) [flatB l] := by
  refine CFun.intro (tr := [100007]) (fz := []) (n := 8) (rs := [.tmp 2]) Try.func37 rfl (by kernel_rfl) rfl rfl mixed (by kernel_rfl) (by simp) (by simp) ?_
  have s1 : l.length * 32 ≤ 140737488355328 := by omega
  have s2 : l.length ≤ 140737488355328 := by omega
  have s3 : 0 < l.length := List.length_pos_iff.2 hne
  have s4 : (l.map encB).isEmpty = false := by cases l <;> simp_all
  simp [hne, s1, s2, s3, s4]
  rw [flatB_map, flatB_dis]
  exact flatB_le 1 l

theorem flatB_len (l : List Bnd) : (flatB l).length = l.length * 4 := by
  induction l with
  | nil => rfl
  | cons b l ih => simp only [flatB, List.flatMap_cons, List.length_append, List.length_cons] at ih ⊢; rw [ih]; simp [cellsB]; omega

theorem flatB_drop (l : List Bnd) (i : Nat) : (flatB l).drop (i * 4) = flatB (l.drop i) := by
  induction i generalizing l with
  | zero => simp
  | succ i ih =>
    cases l with
    | nil => simp [flatB]
    | cons b l =>
      have e : (i + 1) * 4 = 4 + i * 4 := by omega
      rw [e, ← List.drop_drop]
      have : (flatB (b :: l)).drop 4 = flatB l := rfl
      rw [this, ih]
      rfl

/-- A binding is read out of a row. -/
theorem load_flatB {l : List Bnd} {i : Nat} {b : Bnd} (h : l[i]? = some b) (rest : List AVal) : aload (some (true, 4)) (flatB l ++ rest) (i * 4) = some (encB b) := by
  have hi : i < l.length := (List.getElem?_eq_some_iff.1 h).1
  have hd : l.drop i = b :: l.drop (i + 1) := by
    rw [List.drop_eq_getElem_cons hi]
    congr 1
    rw [List.getElem?_eq_getElem hi] at h
    injection h
  have hl : i * 4 + 4 ≤ (flatB l).length := by rw [flatB_len]; omega
  have e : ((flatB l ++ rest).drop (i * 4)).take 4 = cellsB b := by
    rw [List.drop_append_of_le_length (by omega), flatB_drop, hd]
    rfl
  simp only [aload]
  rw [e, if_pos ⟨by omega, by simp; omega, rfl⟩]
  rfl
end Go.Proofs.Ytlpgadlfpigbhaa
