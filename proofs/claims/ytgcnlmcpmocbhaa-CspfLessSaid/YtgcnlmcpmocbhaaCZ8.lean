/- For every number, every list of links, every two nodes, every constraint and every bandwidth the law CspfLess returns true. No condition. -/
import Derived.Test.YtgcnlmcpmocbhaaC56
import Derived.Test.YtgcnlmcpmocbhaaC61
set_option linter.unusedSimpArgs false
set_option linter.unusedVariables false
namespace Go.Proofs.Ytgcnlmcpmocbhaa
open Go Go.Am

theorem law8 : ∀ xs, RdAs [tyI, tyLs, tyI, tyI, tyC, tyI] xs → CFun Try.prog 8 xs [] (.bool true) [] := by
  rintro xs ⟨a, r, rfl, ha, b, r, rfl, hb, d, r, rfl, hd, e, r, rfl, he, c, r, rfl, hc, f, r, rfl, hf, rfl⟩
  obtain ⟨n, rfl, _⟩ := rd_i ha
  obtain ⟨l, rfl, hl⟩ := rd_Ls hb
  obtain ⟨fr, rfl, _⟩ := rd_i hd
  obtain ⟨to, rfl, _⟩ := rd_i he
  obtain ⟨c, rfl, h1, h2⟩ := rd_C hc
  obtain ⟨less, rfl, _⟩ := rd_i hf
  exact c8 n l _ rfl hl fr to c _ _ rfl rfl h1 h2 less

set_option maxRecDepth 100000 in
theorem lifted8 (os : Os) (started : os.Started) (H : Type) (enc : TypeId × Value → H) :
    ReturnsInHanded {} Try.checked os 8 .any (Rows.cspfLessSpec.pre6 enc Try.prog Try.f8 Rows.cspfLessRow.domain false) (Rows.cspfLessSpec.post enc Try.prog Try.f8 false true false false) := by
  refine returnsInHanded_of_change_sized (C := Try.checked) own started (by kernel_rfl) Try.func8
    (ChangeSpec.witness6 (enc := enc) (C := Try.checked) (s := Rows.cspfLessSpec) false ⟨#[], #[.int .i64 0, .slice none 0 0, .int .i64 0, .int .i64 0, .agg #[.int .i64 0, .int .i64 0, .int .i64 0, .int .u32 0, .int .u32 0, .int .i64 0, .slice none 0 0, .slice none 0 0], .int .i64 0], []⟩ 8 (by kernel_rfl) (by kernel_rfl) (by kernel_rfl) (by kernel_rfl)) ?_
  intro W base args ds gs before hval hW _ hsz _
  exact law_calls (f := 8) 6 [tyI, tyLs, tyI, tyI, tyC, tyI] 4 (by kernel_rfl) (by kernel_rfl) rfl (by kernel_rfl) rfl (fun ds hd => by
    match ds, hd with
    | [a, b, c, d, e, f], _ => rfl) law8 W base args ds gs before hval hW hsz

theorem proved8 : Rows.CspfLessSaid :=
  OpenClaim.holds_of_wide 8 Try.f8 rfl rfl rfl rfl rfl rfl rfl ⟨rfl, rfl, rfl, rfl, rfl⟩ rfl rfl rfl rfl rfl (by kernel_rfl) Try.func8 (by kernel_rfl)
    (of_decide_eq_true (by kernel_rfl)) (by unfold Func.isWrapper; first | (rw [if_pos (by decide +kernel)]; kernel_rfl) | (rw [if_neg (by decide +kernel)]; exact ⟨rfl, rfl⟩))
    (fun os started H enc _ => lifted8 os started H enc)
end Go.Proofs.Ytgcnlmcpmocbhaa
