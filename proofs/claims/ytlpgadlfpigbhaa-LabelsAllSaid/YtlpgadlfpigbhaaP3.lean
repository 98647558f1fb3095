/- For every list of bytes the law LabelsAll returns true: labels given back in any order make up a valid list and are taken from it in ascending order. No condition. -/
import Derived.Test.YtlpgadlfpigbhaaL25
set_option linter.unusedSimpArgs false
set_option linter.unusedVariables false
namespace Go.Proofs.Ytlpgadlfpigbhaa
open Go Go.Am

theorem rd_U {x : AVal} (h : RdA (false, [.sl false 1 [.int .u8]]) x) : ∃ l : List Int, x = .sl 1 (l.map encU) .sh ∧ ∀ x ∈ l, 0 ≤ x ∧ x ≤ 255 := by
  obtain ⟨l, rfl, _⟩ := rd_list (enc := fun (x : { n : Int // 0 ≤ n ∧ n ≤ 255 }) => encU x.1) h fun y cs h1 h2 => by
    obtain ⟨a, r, rfl, h3, h4⟩ := Rds_int h2
    obtain rfl := Rds_nil h3
    have hx : 0 ≤ a ∧ a ≤ 255 := by simpa [Lit.wf, IntKind.min, IntKind.max, IntKind.signed, IntKind.bits] using h4
    simp at h1
    exact ⟨⟨a, hx⟩, h1.symm⟩
  refine ⟨l.map (·.1), by simp, fun x hx => ?_⟩
  obtain ⟨y, _, rfl⟩ := List.mem_map.1 hx
  exact y.2
theorem law3 : ∀ xs, RdAs [(false, [.sl false 1 [.int .u8]])] xs → CFun Try.prog 3 xs [] (.bool true) [] := by
  rintro xs ⟨x, r, rfl, h1, rfl⟩
  obtain ⟨l, rfl, h⟩ := rd_U h1
  exact c3 l _ rfl h

set_option maxRecDepth 100000 in
theorem lifted3 (os : Os) (started : os.Started) (H : Type) (enc : TypeId × Value → H) :
    ReturnsInHanded {} Try.checked os 3 .any (Rows.labelsAllSpec.pre6 enc Try.prog Try.f3 Rows.labelsAllRow.domain false) (Rows.labelsAllSpec.post enc Try.prog Try.f3 false true false false) := by
  refine returnsInHanded_of_change_sized (C := Try.checked) own started (by kernel_rfl) Try.func3
    (ChangeSpec.witness6 (enc := enc) (C := Try.checked) (s := Rows.labelsAllSpec) false ⟨#[], #[.slice none 0 0], []⟩ 8 (by kernel_rfl) (by kernel_rfl) (by kernel_rfl) (by kernel_rfl)) ?_
  intro W base args ds gs before hval hW _ hsz _
  exact law_calls (f := 3) 6 [(false, [.sl false 1 [.int .u8]])] 4 (by kernel_rfl) (by kernel_rfl) rfl (by kernel_rfl) rfl (fun ds hd => by
    match ds, hd with
    | [a], _ => rfl) law3 W base args ds gs before hval hW hsz

theorem proved3 : Rows.LabelsAllSaid :=
  OpenClaim.holds_of_wide 3 Try.f3 rfl rfl rfl rfl rfl rfl rfl ⟨rfl, rfl, rfl, rfl, rfl⟩ rfl rfl rfl rfl rfl (by kernel_rfl) Try.func3 (by kernel_rfl)
    (of_decide_eq_true (by kernel_rfl)) (by unfold Func.isWrapper; first | (rw [if_pos (by decide +kernel)]; kernel_rfl) | (rw [if_neg (by decide +kernel)]; exact ⟨rfl, rfl⟩))
    (fun os started H enc _ => lifted3 os started H enc)
end Go.Proofs.Ytlpgadlfpigbhaa
