/- For every list of ranges and every label the law LabelsRuns returns true: Check, Take, Give, Has and Count answer as the reference. No condition. -/
import Derived.Test.YtlpgadlfpigbhaaL23
namespace Go.Proofs.Ytlpgadlfpigbhaa
open Go Go.Am

theorem law4 : ∀ xs, RdAs [tyLR, (false, [.int .i64])] xs → CFun Try.prog 4 xs [] (.bool true) [] := by
  rintro xs ⟨x, r, rfl, h1, y, r2, rfl, h2, rfl⟩
  obtain ⟨l, rfl, _⟩ := rd_LR h1
  obtain ⟨n, rfl, _⟩ := rd_i64 h2
  exact c4 l _ rfl n

set_option maxRecDepth 100000 in
theorem lifted4 (os : Os) (started : os.Started) (H : Type) (enc : TypeId × Value → H) :
    ReturnsInHanded {} Try.checked os 4 .any (Rows.labelsRunsSpec.pre6 enc Try.prog Try.f4 Rows.labelsRunsRow.domain false) (Rows.labelsRunsSpec.post enc Try.prog Try.f4 false true false false) := by
  refine returnsInHanded_of_change_sized (C := Try.checked) own started (by kernel_rfl) Try.func4
    (ChangeSpec.witness6 (enc := enc) (C := Try.checked) (s := Rows.labelsRunsSpec) false ⟨#[], #[.slice none 0 0, .int .i64 0], []⟩ 8 (by kernel_rfl) (by kernel_rfl) (by kernel_rfl) (by kernel_rfl)) ?_
  intro W base args ds gs before hval hW _ hsz _
  exact law_calls (f := 4) 6 [tyLR, (false, [.int .i64])] 4 (by kernel_rfl) (by kernel_rfl) rfl (by kernel_rfl) rfl (fun ds hd => by
    match ds, hd with
    | [a, b], _ => rfl) law4 W base args ds gs before hval hW hsz

theorem proved4 : Rows.LabelsRunsSaid :=
  OpenClaim.holds_of_wide 4 Try.f4 rfl rfl rfl rfl rfl rfl rfl ⟨rfl, rfl, rfl, rfl, rfl⟩ rfl rfl rfl rfl rfl (by kernel_rfl) Try.func4 (by kernel_rfl)
    (of_decide_eq_true (by kernel_rfl)) (by unfold Func.isWrapper; first | (rw [if_pos (by decide +kernel)]; kernel_rfl) | (rw [if_neg (by decide +kernel)]; exact ⟨rfl, rfl⟩))
    (fun os started H enc _ => lifted4 os started H enc)
end Go.Proofs.Ytlpgadlfpigbhaa
