/- For every number, every list of links and every two nodes the law CspfPlain returns true. No condition. -/
import Derived.Test.YtgcnlmcpmocbhaaCW5
import Derived.Test.YtgcnlmcpmocbhaaC75
set_option linter.unusedSimpArgs false
set_option linter.unusedVariables false
namespace Go.Proofs.Ytgcnlmcpmocbhaa
open Go Go.Am

theorem law7 : ∀ xs, RdAs [tyI, tyLs, tyI, tyI] xs → CFun Try.prog 7 xs [] (.bool true) [] := by
  rintro xs ⟨a, r, rfl, ha, b, r, rfl, hb, d, r, rfl, hd, e, r, rfl, he, rfl⟩
  obtain ⟨n, rfl, _⟩ := rd_i ha
  obtain ⟨l, rfl, hl⟩ := rd_Ls hb
  obtain ⟨fr, rfl, _⟩ := rd_i hd
  obtain ⟨to, rfl, _⟩ := rd_i he
  exact c7 n l _ rfl hl fr to

set_option maxRecDepth 100000 in
theorem lifted7 (os : Os) (started : os.Started) (H : Type) (enc : TypeId × Value → H) :
    ReturnsInHanded {} Try.checked os 7 .any (Rows.cspfPlainSpec.pre6 enc Try.prog Try.f7 Rows.cspfPlainRow.domain false) (Rows.cspfPlainSpec.post enc Try.prog Try.f7 false true false false) := by
  refine returnsInHanded_of_change_sized (C := Try.checked) own started (by kernel_rfl) Try.func7
    (ChangeSpec.witness6 (enc := enc) (C := Try.checked) (s := Rows.cspfPlainSpec) false ⟨#[], #[.int .i64 0, .slice none 0 0, .int .i64 0, .int .i64 0], []⟩ 8 (by kernel_rfl) (by kernel_rfl) (by kernel_rfl) (by kernel_rfl)) ?_
  intro W base args ds gs before hval hW _ hsz _
  exact law_calls (f := 7) 6 [tyI, tyLs, tyI, tyI] 4 (by kernel_rfl) (by kernel_rfl) rfl (by kernel_rfl) rfl (fun ds hd => by
    match ds, hd with
    | [a, b, c, d], _ => rfl) law7 W base args ds gs before hval hW hsz

theorem proved7 : Rows.CspfPlainSaid :=
  OpenClaim.holds_of_wide 7 Try.f7 rfl rfl rfl rfl rfl rfl rfl ⟨rfl, rfl, rfl, rfl, rfl⟩ rfl rfl rfl rfl rfl (by kernel_rfl) Try.func7 (by kernel_rfl)
    (of_decide_eq_true (by kernel_rfl)) (by unfold Func.isWrapper; first | (rw [if_pos (by decide +kernel)]; kernel_rfl) | (rw [if_neg (by decide +kernel)]; exact ⟨rfl, rfl⟩))
    (fun os started H enc _ => lifted7 os started H enc)
end Go.Proofs.Ytgcnlmcpmocbhaa
