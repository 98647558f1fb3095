/- For every list of links, every list of tunnels, every path and every constraint the law TunnelVictims returns true. No condition. -/
import Derived.Test.YtpmmnnaaoideeaaT9
import Derived.Test.YtpmmnnaaoideeaaT26
set_option linter.unusedSimpArgs false
set_option linter.unusedVariables false
namespace Go.Proofs.Ytpmmnnaaoideeaa
open Go Go.Am

theorem law5 : ∀ xs, RdAs [tyLs, tyTs, tyIs, tyC] xs → CFun Try.prog 5 xs [] (.bool true) [] := by
  rintro xs ⟨a, r, rfl, ha, b, r, rfl, hb, d, r, rfl, hd, c, r, rfl, hc, rfl⟩
  obtain ⟨l, rfl, hl, hF⟩ := rd_Ls ha
  obtain ⟨ts, rfl, hr, ht⟩ := rd_Ts hb
  obtain ⟨p, rfl, hp⟩ := rd_Is hd
  obtain ⟨c, rfl, h1, h2⟩ := rd_C hc
  exact t5 l _ rfl ts _ rfl hr (fun t h => (ht t h).2.1.2.2) p _ rfl c

set_option maxRecDepth 100000 in
theorem lifted5 (os : Os) (started : os.Started) (H : Type) (enc : TypeId × Value → H) :
    ReturnsInHanded {} Try.checked os 5 .any (Rows.tunnelVictimsSpec.pre6 enc Try.prog Try.f5 Rows.tunnelVictimsRow.domain false) (Rows.tunnelVictimsSpec.post enc Try.prog Try.f5 false true false false) := by
  refine returnsInHanded_of_change_sized (C := Try.checked) own started (by kernel_rfl) Try.func5
    (ChangeSpec.witness6 (enc := enc) (C := Try.checked) (s := Rows.tunnelVictimsSpec) false ⟨#[], #[.slice none 0 0, .slice none 0 0, .slice none 0 0, .agg #[.int .i64 0, .int .i64 0, .int .i64 0, .int .u32 0, .int .u32 0, .int .i64 0, .slice none 0 0, .slice none 0 0]], []⟩ 8 (by kernel_rfl) (by kernel_rfl) (by kernel_rfl) (by kernel_rfl)) ?_
  intro W base args ds gs before hval hW _ hsz _
  exact law_calls (f := 5) 6 [tyLs, tyTs, tyIs, tyC] 4 (by kernel_rfl) (by kernel_rfl) rfl (by kernel_rfl) rfl (fun ds hd => by
    match ds, hd with
    | [a, b, c, d], _ => rfl) law5 W base args ds gs before hval hW hsz

theorem proved5 : Rows.TunnelVictimsSaid :=
  OpenClaim.holds_of_wide 5 Try.f5 rfl rfl rfl rfl rfl rfl rfl ⟨rfl, rfl, rfl, rfl, rfl⟩ rfl rfl rfl rfl rfl (by kernel_rfl) Try.func5 (by kernel_rfl)
    (of_decide_eq_true (by kernel_rfl)) (by unfold Func.isWrapper; first | (rw [if_pos (by decide +kernel)]; kernel_rfl) | (rw [if_neg (by decide +kernel)]; exact ⟨rfl, rfl⟩))
    (fun os started H enc _ => lifted5 os started H enc)
end Go.Proofs.Ytpmmnnaaoideeaa
