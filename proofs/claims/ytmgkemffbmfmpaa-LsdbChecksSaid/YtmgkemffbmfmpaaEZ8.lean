/- For every list the law LsdbChecks returns true. No condition. -/
import Derived.Test.YtmgkemffbmfmpaaE22
set_option linter.unusedSimpArgs false
set_option linter.unusedVariables false
namespace Go.Proofs.Ytmgkemffbmfmpaa
open Go Go.Am

theorem law8 : ∀ xs, RdAs [tyD] xs → CFun Try.prog 8 xs [] (.bool true) [] := by
  rintro xs ⟨a, r, rfl, ha, rfl⟩
  obtain ⟨db, rfl, ok, hl⟩ := rd_D ha
  exact g8 db (by omega) ok

set_option maxRecDepth 100000 in
theorem lifted8 (os : Os) (started : os.Started) (H : Type) (enc : TypeId × Value → H) :
    ReturnsInHanded {} Try.checked os 8 .any (Rows.lsdbChecksSpec.pre6 enc Try.prog Try.f8 Rows.lsdbChecksRow.domain false) (Rows.lsdbChecksSpec.post enc Try.prog Try.f8 false true false false) := by
  refine returnsInHanded_of_change_sized (C := Try.checked) own started (by kernel_rfl) Try.func8
    (ChangeSpec.witness6 (enc := enc) (C := Try.checked) (s := Rows.lsdbChecksSpec) false ⟨#[], #[.slice none 0 0], []⟩ 8 (by kernel_rfl) (by kernel_rfl) (by kernel_rfl) (by kernel_rfl)) ?_
  intro W base args ds gs before hval hW _ hsz _
  exact law_calls (f := 8) 6 [tyD] 4 (by kernel_rfl) (by kernel_rfl) rfl (by kernel_rfl) rfl (fun ds hd => by
    match ds, hd with
    | [a], _ => rfl) law8 W base args ds gs before hval hW hsz

theorem proved8 : Rows.LsdbChecksSaid :=
  OpenClaim.holds_of_wide 8 Try.f8 rfl rfl rfl rfl rfl rfl rfl ⟨rfl, rfl, rfl, rfl, rfl⟩ rfl rfl rfl rfl rfl (by kernel_rfl) Try.func8 (by kernel_rfl)
    (of_decide_eq_true (by kernel_rfl)) (by unfold Func.isWrapper; first | (rw [if_pos (by decide +kernel)]; kernel_rfl) | (rw [if_neg (by decide +kernel)]; exact ⟨rfl, rfl⟩))
    (fun os started H enc _ => lifted8 os started H enc)
end Go.Proofs.Ytmgkemffbmfmpaa
