/- For every neighbor, interfaces, key and time the law FloodDue returns true. No condition. -/
import Derived.Test.YthonenmafbpbkaaFE4
set_option linter.unusedSimpArgs false
set_option linter.unusedVariables false
namespace Go.Proofs.Ythonenmafbpbkaa
open Go Go.Am
theorem law5 : ∀ xs, RdAs [tyN, tyIs, tyKey, tyI] xs → CFun Try.prog 5 xs [] (.bool true) [] := by
 rintro xs ⟨a, r, rfl, ha, b, r, rfl, hb, c, r, rfl, hc, d, r, rfl, hd, rfl⟩
 obtain ⟨n, rfl, ok⟩ := rd_N ha
 obtain ⟨l, rfl, hl, okl⟩ := rd_Is hb
 obtain ⟨k, rfl⟩ := rd_Key hc
 obtain ⟨t, rfl, _⟩ := rd_i hd
 exact e5 n ok l hl okl k t
set_option maxRecDepth 100000 in
theorem lifted5 (os : Os) (started : os.Started) (H : Type) (enc : TypeId × Value → H) :
   ReturnsInHanded {} Try.checked os 5 .any (Rows.floodDueSpec.pre6 enc Try.prog Try.f5 Rows.floodDueRow.domain false) (Rows.floodDueSpec.post enc Try.prog Try.f5 false true false false) := by
 refine returnsInHanded_of_change_sized (C := Try.checked) own started (by kernel_rfl) Try.func5
   (ChangeSpec.witness6 (enc := enc) (C := Try.checked) (s := Rows.floodDueSpec) false ⟨#[], #[.agg #[.int .u32 0, .int .u32 0, .int .i64 0, .int .u32 0, .int .u32 0, .int .i64 0, .int .i64 0, .bool false, .int .i64 0, .slice none 0 0, .slice none 0 0, .bool false, .slice none 0 0, .slice none 0 0, .int .i64 0], .slice none 0 0, .agg #[.int .i64 0, .int .u32 0, .int .i64 0, .int .u32 0], .int .i64 0], []⟩ 8 (by kernel_rfl) (by kernel_rfl) (by kernel_rfl) (by kernel_rfl)) ?_
 intro W base args ds gs before hval hW _ hsz _
 exact law_calls (f := 5) 8 [tyN, tyIs, tyKey, tyI] 4 (by kernel_rfl) (by kernel_rfl) rfl (by kernel_rfl) rfl (fun ds hd => by
   match ds, hd with
   | [a, b, c, d], _ => rfl) law5 W base args ds gs before hval hW hsz
theorem proved5 : Rows.FloodDueSaid :=
 OpenClaim.holds_of_wide 5 Try.f5 rfl rfl rfl rfl rfl rfl rfl ⟨rfl, rfl, rfl, rfl, rfl⟩ rfl rfl rfl rfl rfl (by kernel_rfl) Try.func5 (by kernel_rfl)
   (of_decide_eq_true (by kernel_rfl)) (by unfold Func.isWrapper; first | (rw [if_pos (by decide +kernel)]; kernel_rfl) | (rw [if_neg (by decide +kernel)]; exact ⟨rfl, rfl⟩))
   (fun os started H enc _ => lifted5 os started H enc)
end Go.Proofs.Ythonenmafbpbkaa
