import Derived.Test.YthonenmafbpbkaaFXDS28
import Derived.Test.YthonenmafbpbkaaBmY
set_option linter.unusedSimpArgs false
set_option linter.unusedVariables false
namespace Go.Proofs.Ythonenmafbpbkaa
open Go Go.Am
set_option linter.unusedSimpArgs false
@[simp] def cellsR (b : List Int) (at_ : Nat) (bad : Bool) : List AVal := [encBs b, .int .i64 at_, .bool bad]
end Go.Proofs.Ythonenmafbpbkaa

namespace Go.Proofs.Ythonenmafbpbkaa
open Go Go.Am
set_option linter.unusedSimpArgs false
end Go.Proofs.Ythonenmafbpbkaa

namespace Go.Proofs.Ythonenmafbpbkaa
open Go Go.Am
set_option linter.unusedSimpArgs false
theorem chkH_ok {h : Hdr} (hc : chkH h = 0) : (1 ≤ h.Ty ∧ h.Ty ≤ 5) ∧ h.Router ≠ 0 ∧ (1 ≤ h.Seq ∧ h.Seq ≤ 2147483647) ∧ (0 ≤ h.Age ∧ h.Age ≤ 3600) ∧ (0 ≤ h.Sum ∧ h.Sum ≤ 65535) ∧ (0 ≤ h.Len ∧ h.Len ≤ 32) := by
 unfold chkH at hc
 by_cases e1 : inR h.Ty 1 5 = false
 · rw [if_pos e1] at hc; omega
 rw [if_neg e1] at hc
 by_cases e2 : h.Router = 0 ∨ inR h.Seq 1 2147483647 = false ∨ inR h.Age 0 3600 = false ∨ inR h.Sum 0 65535 = false ∨ inR h.Len 0 (if hasP h.Ty = true then 32 else 0) = false
 · rw [if_pos e2] at hc; omega
 clear hc
 simp only [not_or, Bool.not_eq_false, inR_iff] at e1 e2
 obtain ⟨f1, f2, f3, f4, f5⟩ := e2
 refine ⟨e1, f1, f2, f3, f4, ?_⟩
 split at f5 <;> omega
end Go.Proofs.Ythonenmafbpbkaa

namespace Go.Proofs.Ythonenmafbpbkaa
open Go Go.Am
set_option linter.unusedSimpArgs false
theorem chkA_parts {l : Lsa} (h : chkA l = 0) : chkH l.H = 0 ∧ forB l = false ∧ (l.H.Ty = 1 → chkKs l.H.Router none l.Links = 0) ∧ (3 ≤ l.H.Ty → (0 ≤ l.Cost ∧ l.Cost ≤ 16777216) ∧ (0 ≤ l.Tag ∧ l.Tag ≤ 4294967295)) := by
 unfold chkA at h
 by_cases e1 : chkH l.H = 0
 case neg => rw [if_pos e1] at h; exact (e1 h).elim
 rw [if_neg (by simp [e1])] at h
 by_cases e2 : forB l = true
 · rw [if_pos e2] at h; omega
 rw [if_neg e2] at h
 refine ⟨e1, by simpa using e2, fun ht => ?_, fun ht => ?_⟩
 · rw [if_pos ht, chkLinks] at h
   split at h
   · omega
   · exact h
 · rw [if_neg (by omega), if_neg (by omega)] at h
   by_cases e3 : inR l.Cost 0 16777216 = false ∨ inR l.Tag 0 4294967295 = false
   · rw [if_pos e3] at h; omega
   · simp only [not_or, Bool.not_eq_false, inR_iff] at e3
     exact e3
end Go.Proofs.Ythonenmafbpbkaa

namespace Go.Proofs.Ythonenmafbpbkaa
open Go Go.Am
set_option linter.unusedSimpArgs false
def lsa0 : Lsa := ⟨⟨0, 0, 0, 0, 0, 0, 0⟩, false, false, [], [], 0, false, 0, 0⟩
end Go.Proofs.Ythonenmafbpbkaa

namespace Go.Proofs.Ythonenmafbpbkaa
open Go Go.Am
set_option linter.unusedSimpArgs false
end Go.Proofs.Ythonenmafbpbkaa

namespace Go.Proofs.Ythonenmafbpbkaa
open Go Go.Am
set_option linter.unusedSimpArgs false
end Go.Proofs.Ythonenmafbpbkaa
