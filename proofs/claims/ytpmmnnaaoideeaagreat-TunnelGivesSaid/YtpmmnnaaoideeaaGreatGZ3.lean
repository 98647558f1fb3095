/- For every number, every list of links, every list of tunnels, every path and every constraint the law TunnelGives returns true. No condition. -/
import Derived.Test.YtpmmnnaaoideeaaGreatGT6
import Derived.Test.YtpmmnnaaoideeaaGreatGT31
set_option linter.unusedSimpArgs false
set_option linter.unusedVariables false
namespace Go.Proofs.YtpmmnnaaoideeaaGreat
open Go Go.Am

theorem law3 : ∀ xs, RdAs [tyI, tyLs, tyTs, tyIs, tyC] xs → CFun Tryz.prog 3 xs [] (.bool true) [] := by
  rintro xs ⟨e, r, rfl, he, a, r, rfl, ha, b, r, rfl, hb, d, r, rfl, hd, c, r, rfl, hc, rfl⟩
  obtain ⟨n, rfl, _⟩ := rd_i he
  obtain ⟨l, rfl, hl, hF⟩ := rd_Ls ha
  obtain ⟨ts, rfl, hr, ht⟩ := rd_Ts hb
  obtain ⟨p, rfl, hp⟩ := rd_Is hd
  obtain ⟨c, rfl, h1, h2⟩ := rd_C hc
  exact t3 n l _ rfl ts _ rfl hr ht p _ rfl c

set_option maxRecDepth 100000 in
theorem lifted3 (os : Os) (started : os.Started) (H : Type) (enc : TypeId × Value → H) :
    ReturnsInHanded {} Tryz.checked os 3 .any (Rows.tunnelGivesSpec.pre6 enc Tryz.prog Tryz.f3 Rows.tunnelGivesRow.domain false) (Rows.tunnelGivesSpec.post enc Tryz.prog Tryz.f3 false true false false) := by
  refine returnsInHanded_of_change_sized (C := Tryz.checked) own started (by kernel_rfl) Tryz.func3
    (ChangeSpec.witness6 (enc := enc) (C := Tryz.checked) (s := Rows.tunnelGivesSpec) false ⟨#[], #[.int .i64 0, .slice none 0 0, .slice none 0 0, .slice none 0 0, .agg #[.int .i64 0, .int .i64 0, .int .i64 0, .int .u32 0, .int .u32 0, .int .i64 0, .slice none 0 0, .slice none 0 0]], []⟩ 8 (by kernel_rfl) (by kernel_rfl) (by kernel_rfl) (by kernel_rfl)) ?_
  intro W base args ds gs before hval hW _ hsz _
  exact law_calls (f := 3) 6 [tyI, tyLs, tyTs, tyIs, tyC] 4 (by kernel_rfl) (by kernel_rfl) rfl (by kernel_rfl) rfl (fun ds hd => by
    match ds, hd with
    | [a, b, c, d, e], _ => rfl) law3 W base args ds gs before hval hW hsz

theorem proved3 : Rows.TunnelGivesSaid :=
  OpenClaim.holds_of_wide 3 Tryz.f3 rfl rfl rfl rfl rfl rfl rfl ⟨rfl, rfl, rfl, rfl, rfl⟩ rfl rfl rfl rfl rfl (by kernel_rfl) Tryz.func3 (by kernel_rfl)
    (of_decide_eq_true (by kernel_rfl)) (by unfold Func.isWrapper; first | (rw [if_pos (by decide +kernel)]; kernel_rfl) | (rw [if_neg (by decide +kernel)]; exact ⟨rfl, rfl⟩))
    (fun os started H enc _ => lifted3 os started H enc)
end Go.Proofs.YtpmmnnaaoideeaaGreat
