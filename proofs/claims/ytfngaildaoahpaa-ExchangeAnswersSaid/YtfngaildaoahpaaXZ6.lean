/- For every database and every packet the law ExchangeAnswers returns true. No condition. -/
import Derived.Test.YtfngaildaoahpaaXW4
set_option linter.unusedSimpArgs false
set_option linter.unusedVariables false
namespace Go.Proofs.Ytfngaildaoahpaa
open Go Go.Am
theorem law6 : ∀ xs, RdAs [tyD, tyPk] xs → CFun Try.prog 6 xs [] (.bool true) [] := by
 rintro xs ⟨a, r, rfl, ha, b, r, rfl, hb, rfl⟩
 obtain ⟨db, rfl, h1, h2⟩ := rd_D ha
 obtain ⟨p, rfl, h3, _, _⟩ := rd_Pk hb
 exact w6 db h1 h2 p _ rfl h3
set_option maxRecDepth 100000 in
theorem lifted6 (os : Os) (started : os.Started) (H : Type) (enc : TypeId × Value → H) :
   ReturnsInHanded {} Try.checked os 6 .any (Rows.exchangeAnswersSpec.pre6 enc Try.prog Try.f6 Rows.exchangeAnswersRow.domain false) (Rows.exchangeAnswersSpec.post enc Try.prog Try.f6 false true false false) := by
 refine returnsInHanded_of_change_sized (C := Try.checked) own started (by kernel_rfl) Try.func6
   (ChangeSpec.witness6 (enc := enc) (C := Try.checked) (s := Rows.exchangeAnswersSpec) false ⟨#[], #[.slice none 0 0, .agg #[.int .i64 0, .int .u32 0, .int .u32 0, .int .u32 0, .int .i64 0, .int .i64 0, .int .i64 0, .int .i64 0, .int .u32 0, .int .u32 0, .slice none 0 0, .int .i64 0, .bool false, .bool false, .bool false, .slice none 0 0, .slice none 0 0, .slice none 0 0]], []⟩ 8 (by kernel_rfl) (by kernel_rfl) (by kernel_rfl) (by kernel_rfl)) ?_
 intro W base args ds gs before hval hW _ hsz _
 exact law_calls (f := 6) 6 [tyD, tyPk] 4 (by kernel_rfl) (by kernel_rfl) rfl (by kernel_rfl) rfl (fun ds hd => by
   match ds, hd with
   | [a, b], _ => rfl) law6 W base args ds gs before hval hW hsz
theorem proved6 : Rows.ExchangeAnswersSaid :=
 OpenClaim.holds_of_wide 6 Try.f6 rfl rfl rfl rfl rfl rfl rfl ⟨rfl, rfl, rfl, rfl, rfl⟩ rfl rfl rfl rfl rfl (by kernel_rfl) Try.func6 (by kernel_rfl)
   (of_decide_eq_true (by kernel_rfl)) (by unfold Func.isWrapper; first | (rw [if_pos (by decide +kernel)]; kernel_rfl) | (rw [if_neg (by decide +kernel)]; exact ⟨rfl, rfl⟩))
   (fun os started H enc _ => lifted6 os started H enc)
end Go.Proofs.Ytfngaildaoahpaa
