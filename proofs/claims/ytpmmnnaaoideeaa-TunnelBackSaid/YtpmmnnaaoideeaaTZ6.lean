/- For every list of links and every tunnel the law TunnelBack returns true. No condition. -/
import Derived.Test.YtpmmnnaaoideeaaT9
import Derived.Test.YtpmmnnaaoideeaaT8
set_option linter.unusedSimpArgs false
set_option linter.unusedVariables false
namespace Go.Proofs.Ytpmmnnaaoideeaa
open Go Go.Am

theorem law6 : ∀ xs, RdAs [tyLs, tyT] xs → CFun Try.prog 6 xs [] (.bool true) [] := by
  rintro xs ⟨a, r, rfl, ha, b, r, rfl, hb, rfl⟩
  obtain ⟨l, rfl, hl, hF⟩ := rd_Ls ha
  obtain ⟨t, rfl, ht⟩ := rd_T hb
  exact t6 l _ rfl hl hF t _ rfl ht.2.2.1

set_option maxRecDepth 100000 in
theorem lifted6 (os : Os) (started : os.Started) (H : Type) (enc : TypeId × Value → H) :
    ReturnsInHanded {} Try.checked os 6 .any (Rows.tunnelBackSpec.pre6 enc Try.prog Try.f6 Rows.tunnelBackRow.domain false) (Rows.tunnelBackSpec.post enc Try.prog Try.f6 false true false false) := by
  refine returnsInHanded_of_change_sized (C := Try.checked) own started (by kernel_rfl) Try.func6
    (ChangeSpec.witness6 (enc := enc) (C := Try.checked) (s := Rows.tunnelBackSpec) false ⟨#[], #[.slice none 0 0, .agg #[.int .i64 0, .int .i64 0, .int .i64 0, .int .i64 0, .int .i64 0, .int .i64 0, .int .u32 0, .int .u32 0, .int .i64 0, .slice none 0 0, .slice none 0 0, .slice none 0 0]], []⟩ 8 (by kernel_rfl) (by kernel_rfl) (by kernel_rfl) (by kernel_rfl)) ?_
  intro W base args ds gs before hval hW _ hsz _
  exact law_calls (f := 6) 6 [tyLs, tyT] 4 (by kernel_rfl) (by kernel_rfl) rfl (by kernel_rfl) rfl (fun ds hd => by
    match ds, hd with
    | [a, b], _ => rfl) law6 W base args ds gs before hval hW hsz

theorem proved6 : Rows.TunnelBackSaid :=
  OpenClaim.holds_of_wide 6 Try.f6 rfl rfl rfl rfl rfl rfl rfl ⟨rfl, rfl, rfl, rfl, rfl⟩ rfl rfl rfl rfl rfl (by kernel_rfl) Try.func6 (by kernel_rfl)
    (of_decide_eq_true (by kernel_rfl)) (by unfold Func.isWrapper; first | (rw [if_pos (by decide +kernel)]; kernel_rfl) | (rw [if_neg (by decide +kernel)]; exact ⟨rfl, rfl⟩))
    (fun os started H enc _ => lifted6 os started H enc)
end Go.Proofs.Ytpmmnnaaoideeaa
