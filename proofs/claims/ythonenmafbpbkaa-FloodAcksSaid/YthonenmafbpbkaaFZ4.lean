/- For every neighbor and every list of headers the law FloodAcks returns true. No condition. -/
import Derived.Test.YthonenmafbpbkaaFA3
set_option linter.unusedSimpArgs false
set_option linter.unusedVariables false
namespace Go.Proofs.Ythonenmafbpbkaa
open Go Go.Am
theorem law4 : ∀ xs, RdAs [tyN, tyHs] xs → CFun Try.prog 4 xs [] (.bool true) [] := by
 rintro xs ⟨a, r, rfl, ha, b, r, rfl, hb, rfl⟩
 obtain ⟨n, rfl, ok⟩ := rd_N ha
 obtain ⟨l, rfl, hl, hA⟩ := rd_Hs hb
 exact a4 n ok l (by omega) (fun x hx => (hA x hx).2.2.2.2.2.1)
set_option maxRecDepth 100000 in
theorem lifted4 (os : Os) (started : os.Started) (H : Type) (enc : TypeId × Value → H) :
   ReturnsInHanded {} Try.checked os 4 .any (Rows.floodAcksSpec.pre6 enc Try.prog Try.f4 Rows.floodAcksRow.domain false) (Rows.floodAcksSpec.post enc Try.prog Try.f4 false true false false) := by
 refine returnsInHanded_of_change_sized (C := Try.checked) own started (by kernel_rfl) Try.func4
   (ChangeSpec.witness6 (enc := enc) (C := Try.checked) (s := Rows.floodAcksSpec) false ⟨#[], #[.agg #[.int .u32 0, .int .u32 0, .int .i64 0, .int .u32 0, .int .u32 0, .int .i64 0, .int .i64 0, .bool false, .int .i64 0, .slice none 0 0, .slice none 0 0, .bool false, .slice none 0 0, .slice none 0 0, .int .i64 0], .slice none 0 0], []⟩ 8 (by kernel_rfl) (by kernel_rfl) (by kernel_rfl) (by kernel_rfl)) ?_
 intro W base args ds gs before hval hW _ hsz _
 exact law_calls (f := 4) 6 [tyN, tyHs] 4 (by kernel_rfl) (by kernel_rfl) rfl (by kernel_rfl) rfl (fun ds hd => by
   match ds, hd with
   | [a, b], _ => rfl) law4 W base args ds gs before hval hW hsz
theorem proved4 : Rows.FloodAcksSaid :=
 OpenClaim.holds_of_wide 4 Try.f4 rfl rfl rfl rfl rfl rfl rfl ⟨rfl, rfl, rfl, rfl, rfl⟩ rfl rfl rfl rfl rfl (by kernel_rfl) Try.func4 (by kernel_rfl)
   (of_decide_eq_true (by kernel_rfl)) (by unfold Func.isWrapper; first | (rw [if_pos (by decide +kernel)]; kernel_rfl) | (rw [if_neg (by decide +kernel)]; exact ⟨rfl, rfl⟩))
   (fun os started H enc _ => lifted4 os started H enc)
end Go.Proofs.Ythonenmafbpbkaa
