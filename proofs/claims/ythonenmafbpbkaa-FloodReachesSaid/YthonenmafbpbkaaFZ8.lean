/- For every graph, advertisement, router and time the law FloodReaches returns true. No condition. -/
import Derived.Test.YthonenmafbpbkaaFR8
set_option linter.unusedSimpArgs false
set_option linter.unusedVariables false
namespace Go.Proofs.Ythonenmafbpbkaa
open Go Go.Am
theorem law8 : ∀ xs, RdAs [tyGr, tyA, tyI, tyI] xs → CFun Try.prog 8 xs [] (.bool true) [] := by
 rintro xs ⟨a, r, rfl, ha, b, r, rfl, hb, c, r, rfl, hc, d, r, rfl, hd, rfl⟩
 obtain ⟨R, M, l, rfl, hl, okl⟩ := rd_Gr ha
 obtain ⟨l0, rfl, ok0⟩ := rd_A hb
 obtain ⟨st, rfl, _⟩ := rd_i hc
 obtain ⟨t, rfl, _⟩ := rd_i hd
 exact h8 R M l okl (by omega) l0 ok0 st t
set_option maxRecDepth 100000 in
theorem lifted8 (os : Os) (started : os.Started) (H : Type) (enc : TypeId × Value → H) :
   ReturnsInHanded {} Try.checked os 8 .any (Rows.floodReachesSpec.pre6 enc Try.prog Try.f8 Rows.floodReachesRow.domain false) (Rows.floodReachesSpec.post enc Try.prog Try.f8 false true false false) := by
 refine returnsInHanded_of_change_sized (C := Try.checked) own started (by kernel_rfl) Try.func8
   (ChangeSpec.witness6 (enc := enc) (C := Try.checked) (s := Rows.floodReachesSpec) false ⟨#[], #[.agg #[.int .i64 0, .int .i64 0, .slice none 0 0], .agg #[.int .i64 0, .int .u32 0, .int .i64 0, .int .u32 0, .int .i64 0, .int .i64 0, .int .i64 0, .bool false, .bool false, .slice none 0 0, .slice none 0 0, .int .i64 0, .bool false, .int .u32 0, .int .i64 0], .int .i64 0, .int .i64 0], []⟩ 8 (by kernel_rfl) (by kernel_rfl) (by kernel_rfl) (by kernel_rfl)) ?_
 intro W base args ds gs before hval hW _ hsz _
 exact law_calls (f := 8) 8 [tyGr, tyA, tyI, tyI] 4 (by kernel_rfl) (by kernel_rfl) rfl (by kernel_rfl) rfl (fun ds hd => by
   match ds, hd with
   | [a, b, c, d], _ => rfl) law8 W base args ds gs before hval hW hsz
theorem proved8 : Rows.FloodReachesSaid :=
 OpenClaim.holds_of_wide 8 Try.f8 rfl rfl rfl rfl rfl rfl rfl ⟨rfl, rfl, rfl, rfl, rfl⟩ rfl rfl rfl rfl rfl (by kernel_rfl) Try.func8 (by kernel_rfl)
   (of_decide_eq_true (by kernel_rfl)) (by unfold Func.isWrapper; first | (rw [if_pos (by decide +kernel)]; kernel_rfl) | (rw [if_neg (by decide +kernel)]; exact ⟨rfl, rfl⟩))
   (fun os started H enc _ => lifted8 os started H enc)
end Go.Proofs.Ythonenmafbpbkaa
