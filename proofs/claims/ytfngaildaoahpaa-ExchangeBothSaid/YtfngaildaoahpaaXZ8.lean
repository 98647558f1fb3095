/- For every two databases, identities and time the law ExchangeBoth returns true. No condition. -/
import Derived.Test.YtfngaildaoahpaaXB14
set_option linter.unusedSimpArgs false
set_option linter.unusedVariables false
namespace Go.Proofs.Ytfngaildaoahpaa
open Go Go.Am
theorem law8 : ∀ xs, RdAs [tyD, tyD, tyK, tyK, tyI] xs → CFun Try.prog 8 xs [] (.bool true) [] := by
 rintro xs ⟨a, r, rfl, ha, b, r, rfl, hb, c, r, rfl, hc, d, r, rfl, hd, e, r, rfl, he, rfl⟩
 obtain ⟨a, rfl, oa, la⟩ := rd_D ha
 obtain ⟨b, rfl, ob, lb⟩ := rd_D hb
 obtain ⟨x, rfl, wx⟩ := rd_k hc
 obtain ⟨y, rfl, wy⟩ := rd_k hd
 obtain ⟨now, rfl, _⟩ := rd_i he
 by_cases h : premB a b x y now
 · exact b8p a b x y now _ _ rfl rfl oa ob (by omega) (by omega) wx wy h
 · exact b8n a b x y now _ _ rfl rfl oa ob (by omega) (by omega) h
set_option maxRecDepth 100000 in
theorem lifted8 (os : Os) (started : os.Started) (H : Type) (enc : TypeId × Value → H) :
   ReturnsInHanded {} Try.checked os 8 .any (Rows.exchangeBothSpec.pre6 enc Try.prog Try.f8 Rows.exchangeBothRow.domain false) (Rows.exchangeBothSpec.post enc Try.prog Try.f8 false true false false) := by
 refine returnsInHanded_of_change_sized (C := Try.checked) own started (by kernel_rfl) Try.func8
   (ChangeSpec.witness6 (enc := enc) (C := Try.checked) (s := Rows.exchangeBothSpec) false ⟨#[], #[.slice none 0 0, .slice none 0 0, .int .u32 0, .int .u32 0, .int .i64 0], []⟩ 8 (by kernel_rfl) (by kernel_rfl) (by kernel_rfl) (by kernel_rfl)) ?_
 intro W base args ds gs before hval hW _ hsz _
 exact law_calls (f := 8) 6 [tyD, tyD, tyK, tyK, tyI] 4 (by kernel_rfl) (by kernel_rfl) rfl (by kernel_rfl) rfl (fun ds hd => by
   match ds, hd with
   | [a, b, c, d, e], _ => rfl) law8 W base args ds gs before hval hW hsz
theorem proved8 : Rows.ExchangeBothSaid :=
 OpenClaim.holds_of_wide 8 Try.f8 rfl rfl rfl rfl rfl rfl rfl ⟨rfl, rfl, rfl, rfl, rfl⟩ rfl rfl rfl rfl rfl (by kernel_rfl) Try.func8 (by kernel_rfl)
   (of_decide_eq_true (by kernel_rfl)) (by unfold Func.isWrapper; first | (rw [if_pos (by decide +kernel)]; kernel_rfl) | (rw [if_neg (by decide +kernel)]; exact ⟨rfl, rfl⟩))
   (fun os started H enc _ => lifted8 os started H enc)
end Go.Proofs.Ytfngaildaoahpaa
