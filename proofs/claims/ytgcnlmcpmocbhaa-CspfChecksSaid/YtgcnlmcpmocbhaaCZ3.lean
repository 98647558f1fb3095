/- For every number, every list of links and every constraint the law CspfChecks returns true. No condition. -/
import Derived.Test.YtgcnlmcpmocbhaaC56
set_option linter.unusedSimpArgs false
set_option linter.unusedVariables false
namespace Go.Proofs.Ytgcnlmcpmocbhaa
open Go Go.Am

theorem law3 : ∀ xs, RdAs [tyI, tyLs, tyC] xs → CFun Try.prog 3 xs [] (.bool true) [] := by
  rintro xs ⟨a, r, rfl, ha, b, r, rfl, hb, c, r, rfl, hc, rfl⟩
  obtain ⟨n, rfl, _⟩ := rd_i ha
  obtain ⟨l, rfl, hl⟩ := rd_Ls hb
  obtain ⟨c, rfl, h1, h2⟩ := rd_C hc
  exact c3 n l _ rfl hl c _ _ rfl rfl h1 h2

set_option maxRecDepth 100000 in
theorem lifted3 (os : Os) (started : os.Started) (H : Type) (enc : TypeId × Value → H) :
    ReturnsInHanded {} Try.checked os 3 .any (Rows.cspfChecksSpec.pre6 enc Try.prog Try.f3 Rows.cspfChecksRow.domain false) (Rows.cspfChecksSpec.post enc Try.prog Try.f3 false true false false) := by
  refine returnsInHanded_of_change_sized (C := Try.checked) own started (by kernel_rfl) Try.func3
    (ChangeSpec.witness6 (enc := enc) (C := Try.checked) (s := Rows.cspfChecksSpec) false ⟨#[], #[.int .i64 0, .slice none 0 0, .agg #[.int .i64 0, .int .i64 0, .int .i64 0, .int .u32 0, .int .u32 0, .int .i64 0, .slice none 0 0, .slice none 0 0]], []⟩ 8 (by kernel_rfl) (by kernel_rfl) (by kernel_rfl) (by kernel_rfl)) ?_
  intro W base args ds gs before hval hW _ hsz _
  exact law_calls (f := 3) 6 [tyI, tyLs, tyC] 4 (by kernel_rfl) (by kernel_rfl) rfl (by kernel_rfl) rfl (fun ds hd => by
    match ds, hd with
    | [a, b, c], _ => rfl) law3 W base args ds gs before hval hW hsz

theorem proved3 : Rows.CspfChecksSaid :=
  OpenClaim.holds_of_wide 3 Try.f3 rfl rfl rfl rfl rfl rfl rfl ⟨rfl, rfl, rfl, rfl, rfl⟩ rfl rfl rfl rfl rfl (by kernel_rfl) Try.func3 (by kernel_rfl)
    (of_decide_eq_true (by kernel_rfl)) (by unfold Func.isWrapper; first | (rw [if_pos (by decide +kernel)]; kernel_rfl) | (rw [if_neg (by decide +kernel)]; exact ⟨rfl, rfl⟩))
    (fun os started H enc _ => lifted3 os started H enc)
end Go.Proofs.Ytgcnlmcpmocbhaa
