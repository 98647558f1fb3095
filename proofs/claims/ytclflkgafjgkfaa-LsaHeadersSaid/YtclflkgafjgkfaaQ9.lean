/- For every header and all bytes the law LsaHeaders returns true: EncodeHeader and DecodeHeader answer as the reference. No condition. -/
import Derived.Test.YtclflkgafjgkfaaS30
set_option linter.unusedSimpArgs false
set_option linter.unusedVariables false
namespace Go.Proofs.Ytclflkgafjgkfaa
open Go Go.Am

theorem law9 : ∀ xs, RdAs [tyH, ty8] xs → CFun Try.prog 9 xs [] (.bool true) [] := by
  rintro xs ⟨x, r, rfl, h1, y, r2, rfl, h2, rfl⟩
  obtain ⟨a, rfl, ok⟩ := rd_H h1
  obtain ⟨b, rfl, hb, hl⟩ := rd_8 h2
  exact c9 a ok.2.1 b hb hl

set_option maxRecDepth 100000 in
theorem lifted9 (os : Os) (started : os.Started) (H : Type) (enc : TypeId × Value → H) :
    ReturnsInHanded {} Try.checked os 9 .any (Rows.lsaHeadersSpec.pre6 enc Try.prog Try.f9 Rows.lsaHeadersRow.domain false) (Rows.lsaHeadersSpec.post enc Try.prog Try.f9 false true false false) := by
  refine returnsInHanded_of_change_sized (C := Try.checked) own started (by kernel_rfl) Try.func9
    (ChangeSpec.witness6 (enc := enc) (C := Try.checked) (s := Rows.lsaHeadersSpec) false ⟨#[], #[.agg #[.int .i64 0, .int .u32 0, .int .i64 0, .int .u32 0, .int .i64 0, .int .i64 0, .int .i64 0], .slice none 0 0], []⟩ 8 (by kernel_rfl) (by kernel_rfl) (by kernel_rfl) (by kernel_rfl)) ?_
  intro W base args ds gs before hval hW _ hsz _
  exact law_calls (f := 9) 6 [tyH, ty8] 4 (by kernel_rfl) (by kernel_rfl) rfl (by kernel_rfl) rfl (fun ds hd => by
    match ds, hd with
    | [a, b], _ => rfl) law9 W base args ds gs before hval hW hsz

theorem proved9 : Rows.LsaHeadersSaid :=
  OpenClaim.holds_of_wide 9 Try.f9 rfl rfl rfl rfl rfl rfl rfl ⟨rfl, rfl, rfl, rfl, rfl⟩ rfl rfl rfl rfl rfl (by kernel_rfl) Try.func9 (by kernel_rfl)
    (of_decide_eq_true (by kernel_rfl)) (by unfold Func.isWrapper; first | (rw [if_pos (by decide +kernel)]; kernel_rfl) | (rw [if_neg (by decide +kernel)]; exact ⟨rfl, rfl⟩))
    (fun os started H enc _ => lifted9 os started H enc)
end Go.Proofs.Ytclflkgafjgkfaa
