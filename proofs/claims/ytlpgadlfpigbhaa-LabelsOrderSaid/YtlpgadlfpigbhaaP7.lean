/- For every list of bindings and every binding the law LabelsOrder returns true: Bind keeps an ascending list ascending, the binding is found, and Unbind removes it. No condition. -/
import Derived.Test.YtlpgadlfpigbhaaL26
set_option linter.unusedSimpArgs false
set_option linter.unusedVariables false
namespace Go.Proofs.Ytlpgadlfpigbhaa
open Go Go.Am

theorem law7 : ∀ xs, RdAs [tyBs, tyB] xs → CFun Try.prog 7 xs [] (.bool true) [] := by
  rintro xs ⟨x, r, rfl, h1, y, r2, rfl, h2, rfl⟩
  obtain ⟨l, rfl, _⟩ := rd_Bs h1
  obtain ⟨b, rfl⟩ := rd_B h2
  exact c7 l _ rfl b

set_option maxRecDepth 100000 in
theorem lifted7 (os : Os) (started : os.Started) (H : Type) (enc : TypeId × Value → H) :
    ReturnsInHanded {} Try.checked os 7 .any (Rows.labelsOrderSpec.pre6 enc Try.prog Try.f7 Rows.labelsOrderRow.domain false) (Rows.labelsOrderSpec.post enc Try.prog Try.f7 false true false false) := by
  refine returnsInHanded_of_change_sized (C := Try.checked) own started (by kernel_rfl) Try.func7
    (ChangeSpec.witness6 (enc := enc) (C := Try.checked) (s := Rows.labelsOrderSpec) false ⟨#[], #[.slice none 0 0, .agg #[.int .u32 0, .int .i64 0, .int .u32 0, .int .i64 0]], []⟩ 8 (by kernel_rfl) (by kernel_rfl) (by kernel_rfl) (by kernel_rfl)) ?_
  intro W base args ds gs before hval hW _ hsz _
  exact law_calls (f := 7) 6 [tyBs, tyB] 4 (by kernel_rfl) (by kernel_rfl) rfl (by kernel_rfl) rfl (fun ds hd => by
    match ds, hd with
    | [a, b], _ => rfl) law7 W base args ds gs before hval hW hsz

theorem proved7 : Rows.LabelsOrderSaid :=
  OpenClaim.holds_of_wide 7 Try.f7 rfl rfl rfl rfl rfl rfl rfl ⟨rfl, rfl, rfl, rfl, rfl⟩ rfl rfl rfl rfl rfl (by kernel_rfl) Try.func7 (by kernel_rfl)
    (of_decide_eq_true (by kernel_rfl)) (by unfold Func.isWrapper; first | (rw [if_pos (by decide +kernel)]; kernel_rfl) | (rw [if_neg (by decide +kernel)]; exact ⟨rfl, rfl⟩))
    (fun os started H enc _ => lifted7 os started H enc)
end Go.Proofs.Ytlpgadlfpigbhaa
