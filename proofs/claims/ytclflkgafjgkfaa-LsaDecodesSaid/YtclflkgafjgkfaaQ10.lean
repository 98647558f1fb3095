/- For all bytes the law LsaDecodes returns true: Decode answers as the reference. No condition. -/
import Derived.Test.YtclflkgafjgkfaaS39
set_option linter.unusedSimpArgs false
set_option linter.unusedVariables false
namespace Go.Proofs.Ytclflkgafjgkfaa
open Go Go.Am

theorem law10 : ∀ xs, RdAs [ty8] xs → CFun Try.prog 10 xs [] (.bool true) [] := by
  rintro xs ⟨x, r, rfl, h1, rfl⟩
  obtain ⟨b, rfl, hb, hl⟩ := rd_8 h1
  exact c10 b hb hl

set_option maxRecDepth 100000 in
theorem lifted10 (os : Os) (started : os.Started) (H : Type) (enc : TypeId × Value → H) :
    ReturnsInHanded {} Try.checked os 10 .any (Rows.lsaDecodesSpec.pre6 enc Try.prog Try.f10 Rows.lsaDecodesRow.domain false) (Rows.lsaDecodesSpec.post enc Try.prog Try.f10 false true false false) := by
  refine returnsInHanded_of_change_sized (C := Try.checked) own started (by kernel_rfl) Try.func10
    (ChangeSpec.witness6 (enc := enc) (C := Try.checked) (s := Rows.lsaDecodesSpec) false ⟨#[], #[.slice none 0 0], []⟩ 8 (by kernel_rfl) (by kernel_rfl) (by kernel_rfl) (by kernel_rfl)) ?_
  intro W base args ds gs before hval hW _ hsz _
  exact law_calls (f := 10) 6 [ty8] 4 (by kernel_rfl) (by kernel_rfl) rfl (by kernel_rfl) rfl (fun ds hd => by
    match ds, hd with
    | [a], _ => rfl) law10 W base args ds gs before hval hW hsz

theorem proved10 : Rows.LsaDecodesSaid :=
  OpenClaim.holds_of_wide 10 Try.f10 rfl rfl rfl rfl rfl rfl rfl ⟨rfl, rfl, rfl, rfl, rfl⟩ rfl rfl rfl rfl rfl (by kernel_rfl) Try.func10 (by kernel_rfl)
    (of_decide_eq_true (by kernel_rfl)) (by unfold Func.isWrapper; first | (rw [if_pos (by decide +kernel)]; kernel_rfl) | (rw [if_neg (by decide +kernel)]; exact ⟨rfl, rfl⟩))
    (fun os started H enc _ => lifted10 os started H enc)
end Go.Proofs.Ytclflkgafjgkfaa
