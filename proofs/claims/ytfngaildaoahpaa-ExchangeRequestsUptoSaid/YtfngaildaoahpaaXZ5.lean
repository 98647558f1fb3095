/- For every neighbor, identity, database, packet and time the law ExchangeRequests returns true. Condition: the arguments hold together at most 1048576 values. -/
import Derived.Test.YtfngaildaoahpaaXU6
set_option linter.unusedSimpArgs false
set_option linter.unusedVariables false
namespace Go.Proofs.Ytfngaildaoahpaa
open Go Go.Am
set_option maxRecDepth 100000 in
theorem lifted5 (os : Os) (started : os.Started) (H : Type) (enc : TypeId × Value → H) (F : Stop.Interp) :
   ReturnsInHanded {} Try.checked os 5 .any ((Rows.OpenSpec.upto Rows.exchangeRequestsSpec).pre6 enc Try.prog Try.f5 Rows.exchangeRequestsUptoRow.domain false) (((Rows.OpenSpec.upto Rows.exchangeRequestsSpec).at F).post enc Try.prog Try.f5 false true false false) := by
 refine returnsInHanded_of_cond (C := Try.checked) (s := Rows.OpenSpec.upto Rows.exchangeRequestsSpec) (k := Rows.uptoSmall) rfl own started (by kernel_rfl) Try.func5
   (OpenSpec.witness (enc := enc) (C := Try.checked) (s := Rows.OpenSpec.upto Rows.exchangeRequestsSpec) (k := Rows.uptoSmall) rfl false ⟨#[], #[.agg #[.int .u32 0, .int .u32 0, .int .i64 0, .int .u32 0, .int .u32 0, .int .i64 0, .int .i64 0, .bool false, .int .i64 0, .slice none 0 0, .slice none 0 0, .bool false, .slice none 0 0, .slice none 0 0, .int .i64 0], .int .u32 0, .slice none 0 0, .agg #[.int .i64 0, .int .u32 0, .int .u32 0, .int .u32 0, .int .i64 0, .int .i64 0, .int .i64 0, .int .i64 0, .int .u32 0, .int .u32 0, .slice none 0 0, .int .i64 0, .bool false, .bool false, .bool false, .slice none 0 0, .slice none 0 0, .slice none 0 0], .int .i64 0], []⟩ 8 (by kernel_rfl) (by kernel_rfl) (by kernel_rfl)
     (x := ([.agg [.lit (.int .u32 0), .lit (.int .u32 0), .lit (.int .i64 0), .lit (.int .u32 0), .lit (.int .u32 0), .lit (.int .i64 0), .lit (.int .i64 0), .lit (.bool false), .lit (.int .i64 0), .nil, .nil, .lit (.bool false), .nil, .nil, .lit (.int .i64 0)], .lit (.int .u32 0), .nil, .agg [.lit (.int .i64 0), .lit (.int .u32 0), .lit (.int .u32 0), .lit (.int .u32 0), .agg [.lit (.int .i64 0), .lit (.int .i64 0), .lit (.int .i64 0), .lit (.int .i64 0), .lit (.int .u32 0), .lit (.int .u32 0), .nil], .lit (.int .i64 0), .lit (.bool false), .lit (.bool false), .lit (.bool false), .nil, .nil, .nil], .lit (.int .i64 0)], [], [])) (by kernel_rfl) rfl (by kernel_rfl)) ?_
 intro W base args ds gs before hval hW _ hk _
 have hW2 := hW
 obtain ⟨_, _, _, hV, _⟩ := hW2
 have hg : gs = [] := by
   cases gs with
   | nil => rfl
   | cons => exact hV.elim
 subst hg
 rw [List.append_nil] at hk
 exact AmU.law_calls (f := 5) 6 [tyN, tyK, tyD, tyPk, tyI] 4 (by kernel_rfl) (by kernel_rfl) rfl (by kernel_rfl) rfl (fun ds hd => by
   match ds, hd with
   | [a, b, c, d, e], _ => rfl) law5 W base args ds [] before hval hW (short_rows 6 (by kernel_rfl) hk)
theorem proved5 : Rows.ExchangeRequestsUptoSaid :=
 OpenClaim.holds_of_cond 5 Try.f5 rfl rfl rfl rfl rfl rfl rfl ⟨rfl, rfl, rfl, rfl, rfl⟩ rfl rfl rfl rfl rfl (by kernel_rfl) Try.func5 (by kernel_rfl)
   (of_decide_eq_true (by kernel_rfl)) (by unfold Func.isWrapper; first | (rw [if_pos (by decide +kernel)]; kernel_rfl) | (rw [if_neg (by decide +kernel)]; exact ⟨rfl, rfl⟩))
   (fun os started H enc _ F => lifted5 os started H enc F)
end Go.Proofs.Ytfngaildaoahpaa
