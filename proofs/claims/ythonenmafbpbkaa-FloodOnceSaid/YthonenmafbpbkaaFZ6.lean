/- For every state of the interfaces, row of areas, interface, sender, header and time the law FloodOnce returns true. No condition. -/
import Derived.Test.YthonenmafbpbkaaFO3
set_option linter.unusedSimpArgs false
set_option linter.unusedVariables false
namespace Go.Proofs.Ythonenmafbpbkaa
open Go Go.Am
theorem law6 : ∀ xs, RdAs [tyIs, tyWs, tyI, tyK, tyH, tyI] xs → CFun Try.prog 6 xs [] (.bool true) [] := by
 rintro xs ⟨a, r, rfl, ha, b, r, rfl, hb, c, r, rfl, hc, d, r, rfl, hd, e, r, rfl, he, f, r, rfl, hf, rfl⟩
 obtain ⟨l, rfl, hl, okl⟩ := rd_Is ha
 obtain ⟨w, rfl, hw⟩ := rd_Ws hb
 obtain ⟨fr, rfl, _⟩ := rd_i hc
 obtain ⟨snd, rfl, _⟩ := rd_k hd
 obtain ⟨h, rfl, okh⟩ := rd_H he
 obtain ⟨t, rfl, _⟩ := rd_i hf
 exact o6 l hl okl w (by omega) fr snd h okh.2.2.2.2.2.1 t
set_option maxRecDepth 100000 in
theorem lifted6 (os : Os) (started : os.Started) (H : Type) (enc : TypeId × Value → H) :
   ReturnsInHanded {} Try.checked os 6 .any (Rows.floodOnceSpec.pre6 enc Try.prog Try.f6 Rows.floodOnceRow.domain false) (Rows.floodOnceSpec.post enc Try.prog Try.f6 false true false false) := by
 refine returnsInHanded_of_change_sized (C := Try.checked) own started (by kernel_rfl) Try.func6
   (ChangeSpec.witness6 (enc := enc) (C := Try.checked) (s := Rows.floodOnceSpec) false ⟨#[], #[.slice none 0 0, .slice none 0 0, .int .i64 0, .int .u32 0, .agg #[.int .i64 0, .int .u32 0, .int .i64 0, .int .u32 0, .int .i64 0, .int .i64 0, .int .i64 0], .int .i64 0], []⟩ 8 (by kernel_rfl) (by kernel_rfl) (by kernel_rfl) (by kernel_rfl)) ?_
 intro W base args ds gs before hval hW _ hsz _
 exact law_calls (f := 6) 8 [tyIs, tyWs, tyI, tyK, tyH, tyI] 4 (by kernel_rfl) (by kernel_rfl) rfl (by kernel_rfl) rfl (fun ds hd => by
   match ds, hd with
   | [a, b, c, d, e, f], _ => rfl) law6 W base args ds gs before hval hW hsz
theorem proved6 : Rows.FloodOnceSaid :=
 OpenClaim.holds_of_wide 6 Try.f6 rfl rfl rfl rfl rfl rfl rfl ⟨rfl, rfl, rfl, rfl, rfl⟩ rfl rfl rfl rfl rfl (by kernel_rfl) Try.func6 (by kernel_rfl)
   (of_decide_eq_true (by kernel_rfl)) (by unfold Func.isWrapper; first | (rw [if_pos (by decide +kernel)]; kernel_rfl) | (rw [if_neg (by decide +kernel)]; exact ⟨rfl, rfl⟩))
   (fun os started H enc _ => lifted6 os started H enc)
end Go.Proofs.Ythonenmafbpbkaa
