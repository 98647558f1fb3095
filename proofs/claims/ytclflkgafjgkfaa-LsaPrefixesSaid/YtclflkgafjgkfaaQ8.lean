/- For every two advertisements the law LsaPrefixes returns true: Prefix answers as the reference for a valid one, and SameBody for any. No condition. -/
import Derived.Test.YtclflkgafjgkfaaS20
set_option linter.unusedSimpArgs false
set_option linter.unusedVariables false
namespace Go.Proofs.Ytclflkgafjgkfaa
open Go Go.Am

theorem law8 : ∀ xs, RdAs [tyA, tyA] xs → CFun Try.prog 8 xs [] (.bool true) [] := by
  rintro xs ⟨x, r, rfl, h1, y, r2, rfl, h2, rfl⟩
  obtain ⟨a, rfl, ok⟩ := rd_A h1
  obtain ⟨b, rfl, _⟩ := rd_A h2
  exact c8 a b ok

set_option maxRecDepth 100000 in
theorem lifted8 (os : Os) (started : os.Started) (H : Type) (enc : TypeId × Value → H) :
    ReturnsInHanded {} Try.checked os 8 .any (Rows.lsaPrefixesSpec.pre6 enc Try.prog Try.f8 Rows.lsaPrefixesRow.domain false) (Rows.lsaPrefixesSpec.post enc Try.prog Try.f8 false true false false) := by
  refine returnsInHanded_of_change_sized (C := Try.checked) own started (by kernel_rfl) Try.func8
    (ChangeSpec.witness6 (enc := enc) (C := Try.checked) (s := Rows.lsaPrefixesSpec) false ⟨#[], #[.agg #[.int .i64 0, .int .u32 0, .int .i64 0, .int .u32 0, .int .i64 0, .int .i64 0, .int .i64 0, .bool false, .bool false, .slice none 0 0, .slice none 0 0, .int .i64 0, .bool false, .int .u32 0, .int .i64 0], .agg #[.int .i64 0, .int .u32 0, .int .i64 0, .int .u32 0, .int .i64 0, .int .i64 0, .int .i64 0, .bool false, .bool false, .slice none 0 0, .slice none 0 0, .int .i64 0, .bool false, .int .u32 0, .int .i64 0]], []⟩ 8 (by kernel_rfl) (by kernel_rfl) (by kernel_rfl) (by kernel_rfl)) ?_
  intro W base args ds gs before hval hW _ hsz _
  exact law_calls (f := 8) 6 [tyA, tyA] 4 (by kernel_rfl) (by kernel_rfl) rfl (by kernel_rfl) rfl (fun ds hd => by
    match ds, hd with
    | [a, b], _ => rfl) law8 W base args ds gs before hval hW hsz

theorem proved8 : Rows.LsaPrefixesSaid :=
  OpenClaim.holds_of_wide 8 Try.f8 rfl rfl rfl rfl rfl rfl rfl ⟨rfl, rfl, rfl, rfl, rfl⟩ rfl rfl rfl rfl rfl (by kernel_rfl) Try.func8 (by kernel_rfl)
    (of_decide_eq_true (by kernel_rfl)) (by unfold Func.isWrapper; first | (rw [if_pos (by decide +kernel)]; kernel_rfl) | (rw [if_neg (by decide +kernel)]; exact ⟨rfl, rfl⟩))
    (fun os started H enc _ => lifted8 os started H enc)
end Go.Proofs.Ytclflkgafjgkfaa
