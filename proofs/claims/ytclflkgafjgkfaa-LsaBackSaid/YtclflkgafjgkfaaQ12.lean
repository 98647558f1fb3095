/- For every advertisement and all bytes the law LsaBack returns true: what is encoded is decoded, what is decoded is encoded. No condition. -/
import Derived.Test.YtclflkgafjgkfaaS41
set_option linter.unusedSimpArgs false
set_option linter.unusedVariables false
namespace Go.Proofs.Ytclflkgafjgkfaa
open Go Go.Am

theorem law12 : ∀ xs, RdAs [tyA, ty8] xs → CFun Try.prog 12 xs [] (.bool true) [] := by
  rintro xs ⟨x, r, rfl, h1, y, r2, rfl, h2, rfl⟩
  obtain ⟨l, rfl, ok⟩ := rd_A h1
  obtain ⟨b, rfl, hb, hl⟩ := rd_8b h2
  exact c12 l ok b hb hl

set_option maxRecDepth 100000 in
theorem lifted12 (os : Os) (started : os.Started) (H : Type) (enc : TypeId × Value → H) :
    ReturnsInHanded {} Try.checked os 12 .any (Rows.lsaBackSpec.pre6 enc Try.prog Try.f12 Rows.lsaBackRow.domain false) (Rows.lsaBackSpec.post enc Try.prog Try.f12 false true false false) := by
  refine returnsInHanded_of_change_sized (C := Try.checked) own started (by kernel_rfl) Try.func12
    (ChangeSpec.witness6 (enc := enc) (C := Try.checked) (s := Rows.lsaBackSpec) false ⟨#[], #[.agg #[.int .i64 0, .int .u32 0, .int .i64 0, .int .u32 0, .int .i64 0, .int .i64 0, .int .i64 0, .bool false, .bool false, .slice none 0 0, .slice none 0 0, .int .i64 0, .bool false, .int .u32 0, .int .i64 0], .slice none 0 0], []⟩ 8 (by kernel_rfl) (by kernel_rfl) (by kernel_rfl) (by kernel_rfl)) ?_
  intro W base args ds gs before hval hW _ hsz _
  exact law_calls (f := 12) 6 [tyA, ty8] 4 (by kernel_rfl) (by kernel_rfl) rfl (by kernel_rfl) rfl (fun ds hd => by
    match ds, hd with
    | [a, b], _ => rfl) law12 W base args ds gs before hval hW hsz

theorem proved12 : Rows.LsaBackSaid :=
  OpenClaim.holds_of_wide 12 Try.f12 rfl rfl rfl rfl rfl rfl rfl ⟨rfl, rfl, rfl, rfl, rfl⟩ rfl rfl rfl rfl rfl (by kernel_rfl) Try.func12 (by kernel_rfl)
    (of_decide_eq_true (by kernel_rfl)) (by unfold Func.isWrapper; first | (rw [if_pos (by decide +kernel)]; kernel_rfl) | (rw [if_neg (by decide +kernel)]; exact ⟨rfl, rfl⟩))
    (fun os started H enc _ => lifted12 os started H enc)
end Go.Proofs.Ytclflkgafjgkfaa
