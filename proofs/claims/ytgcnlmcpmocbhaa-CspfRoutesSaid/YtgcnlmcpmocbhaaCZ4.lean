/- For every number, every list of links, every two nodes and every constraint the law CspfRoutes returns true. No condition. -/
import Derived.Test.YtgcnlmcpmocbhaaC56
import Derived.Test.YtgcnlmcpmocbhaaC58
set_option linter.unusedSimpArgs false
set_option linter.unusedVariables false
namespace Go.Proofs.Ytgcnlmcpmocbhaa
open Go Go.Am

theorem law4 : ∀ xs, RdAs [tyI, tyLs, tyI, tyI, tyC] xs → CFun Try.prog 4 xs [] (.bool true) [] := by
  rintro xs ⟨a, r, rfl, ha, b, r, rfl, hb, d, r, rfl, hd, e, r, rfl, he, c, r, rfl, hc, rfl⟩
  obtain ⟨n, rfl, _⟩ := rd_i ha
  obtain ⟨l, rfl, hl⟩ := rd_Ls hb
  obtain ⟨fr, rfl, _⟩ := rd_i hd
  obtain ⟨to, rfl, _⟩ := rd_i he
  obtain ⟨c, rfl, h1, h2⟩ := rd_C hc
  exact c4 n l _ rfl hl fr to c _ _ rfl rfl h1 h2

set_option maxRecDepth 100000 in
theorem lifted4 (os : Os) (started : os.Started) (H : Type) (enc : TypeId × Value → H) :
    ReturnsInHanded {} Try.checked os 4 .any (Rows.cspfRoutesSpec.pre6 enc Try.prog Try.f4 Rows.cspfRoutesRow.domain false) (Rows.cspfRoutesSpec.post enc Try.prog Try.f4 false true false false) := by
  refine returnsInHanded_of_change_sized (C := Try.checked) own started (by kernel_rfl) Try.func4
    (ChangeSpec.witness6 (enc := enc) (C := Try.checked) (s := Rows.cspfRoutesSpec) false ⟨#[], #[.int .i64 0, .slice none 0 0, .int .i64 0, .int .i64 0, .agg #[.int .i64 0, .int .i64 0, .int .i64 0, .int .u32 0, .int .u32 0, .int .i64 0, .slice none 0 0, .slice none 0 0]], []⟩ 8 (by kernel_rfl) (by kernel_rfl) (by kernel_rfl) (by kernel_rfl)) ?_
  intro W base args ds gs before hval hW _ hsz _
  exact law_calls (f := 4) 6 [tyI, tyLs, tyI, tyI, tyC] 4 (by kernel_rfl) (by kernel_rfl) rfl (by kernel_rfl) rfl (fun ds hd => by
    match ds, hd with
    | [a, b, c, d, e], _ => rfl) law4 W base args ds gs before hval hW hsz

theorem proved4 : Rows.CspfRoutesSaid :=
  OpenClaim.holds_of_wide 4 Try.f4 rfl rfl rfl rfl rfl rfl rfl ⟨rfl, rfl, rfl, rfl, rfl⟩ rfl rfl rfl rfl rfl (by kernel_rfl) Try.func4 (by kernel_rfl)
    (of_decide_eq_true (by kernel_rfl)) (by unfold Func.isWrapper; first | (rw [if_pos (by decide +kernel)]; kernel_rfl) | (rw [if_neg (by decide +kernel)]; exact ⟨rfl, rfl⟩))
    (fun os started H enc _ => lifted4 os started H enc)
end Go.Proofs.Ytgcnlmcpmocbhaa
