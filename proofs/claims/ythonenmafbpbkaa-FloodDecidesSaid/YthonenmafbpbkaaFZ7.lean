/- For every database, every advertisement and every router the law FloodDecides returns true. No condition. -/
import Derived.Test.YthonenmafbpbkaaFD1
set_option linter.unusedSimpArgs false
set_option linter.unusedVariables false
namespace Go.Proofs.Ythonenmafbpbkaa
open Go Go.Am
theorem law7 : ∀ xs, RdAs [tyD, tyA, tyK] xs → CFun Try.prog 7 xs [] (.bool true) [] := by
 rintro xs ⟨a, r, rfl, ha, b, r, rfl, hb, c, r, rfl, hc, rfl⟩
 obtain ⟨db, rfl, hd, hsz⟩ := rd_D ha
 obtain ⟨l, rfl, hl⟩ := rd_AD hb
 obtain ⟨self, rfl, _⟩ := rd_k hc
 exact d7 db _ rfl (by omega) hd l hl self
set_option maxRecDepth 100000 in
theorem lifted7 (os : Os) (started : os.Started) (H : Type) (enc : TypeId × Value → H) :
   ReturnsInHanded {} Try.checked os 7 .any (Rows.floodDecidesSpec.pre6 enc Try.prog Try.f7 Rows.floodDecidesRow.domain false) (Rows.floodDecidesSpec.post enc Try.prog Try.f7 false true false false) := by
 refine returnsInHanded_of_change_sized (C := Try.checked) own started (by kernel_rfl) Try.func7
   (ChangeSpec.witness6 (enc := enc) (C := Try.checked) (s := Rows.floodDecidesSpec) false ⟨#[], #[.slice none 0 0, .agg #[.int .i64 0, .int .u32 0, .int .i64 0, .int .u32 0, .int .i64 0, .int .i64 0, .int .i64 0, .bool false, .bool false, .slice none 0 0, .slice none 0 0, .int .i64 0, .bool false, .int .u32 0, .int .i64 0], .int .u32 0], []⟩ 8 (by kernel_rfl) (by kernel_rfl) (by kernel_rfl) (by kernel_rfl)) ?_
 intro W base args ds gs before hval hW _ hsz _
 exact law_calls (f := 7) 6 [tyD, tyA, tyK] 4 (by kernel_rfl) (by kernel_rfl) rfl (by kernel_rfl) rfl (fun ds hd => by
   match ds, hd with
   | [a, b, c], _ => rfl) law7 W base args ds gs before hval hW hsz
theorem proved7 : Rows.FloodDecidesSaid :=
 OpenClaim.holds_of_wide 7 Try.f7 rfl rfl rfl rfl rfl rfl rfl ⟨rfl, rfl, rfl, rfl, rfl⟩ rfl rfl rfl rfl rfl (by kernel_rfl) Try.func7 (by kernel_rfl)
   (of_decide_eq_true (by kernel_rfl)) (by unfold Func.isWrapper; first | (rw [if_pos (by decide +kernel)]; kernel_rfl) | (rw [if_neg (by decide +kernel)]; exact ⟨rfl, rfl⟩))
   (fun os started H enc _ => lifted7 os started H enc)
end Go.Proofs.Ythonenmafbpbkaa
