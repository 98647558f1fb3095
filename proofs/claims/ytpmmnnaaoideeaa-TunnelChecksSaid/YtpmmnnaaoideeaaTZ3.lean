/- For every number, every list of links and every list of tunnels the law TunnelChecks returns true. No condition. -/
import Derived.Test.YtpmmnnaaoideeaaT9
import Derived.Test.YtpmmnnaaoideeaaT18
set_option linter.unusedSimpArgs false
set_option linter.unusedVariables false
namespace Go.Proofs.Ytpmmnnaaoideeaa
open Go Go.Am

theorem law3 : ∀ xs, RdAs [tyI, tyLs, tyTs] xs → CFun Try.prog 3 xs [] (.bool true) [] := by
  rintro xs ⟨a, r, rfl, ha, b, r, rfl, hb, c, r, rfl, hc, rfl⟩
  obtain ⟨n, rfl, _⟩ := rd_i ha
  obtain ⟨l, rfl, hl, hF⟩ := rd_Ls hb
  obtain ⟨ts, rfl, hr, ht⟩ := rd_Ts hc
  exact t3 n l _ rfl ts _ rfl hr fun t h => (ht t h).2.2.2.1

set_option maxRecDepth 100000 in
theorem lifted3 (os : Os) (started : os.Started) (H : Type) (enc : TypeId × Value → H) :
    ReturnsInHanded {} Try.checked os 3 .any (Rows.tunnelChecksSpec.pre6 enc Try.prog Try.f3 Rows.tunnelChecksRow.domain false) (Rows.tunnelChecksSpec.post enc Try.prog Try.f3 false true false false) := by
  refine returnsInHanded_of_change_sized (C := Try.checked) own started (by kernel_rfl) Try.func3
    (ChangeSpec.witness6 (enc := enc) (C := Try.checked) (s := Rows.tunnelChecksSpec) false ⟨#[], #[.int .i64 0, .slice none 0 0, .slice none 0 0], []⟩ 8 (by kernel_rfl) (by kernel_rfl) (by kernel_rfl) (by kernel_rfl)) ?_
  intro W base args ds gs before hval hW _ hsz _
  exact law_calls (f := 3) 6 [tyI, tyLs, tyTs] 4 (by kernel_rfl) (by kernel_rfl) rfl (by kernel_rfl) rfl (fun ds hd => by
    match ds, hd with
    | [a, b, c], _ => rfl) law3 W base args ds gs before hval hW hsz

theorem proved3 : Rows.TunnelChecksSaid :=
  OpenClaim.holds_of_wide 3 Try.f3 rfl rfl rfl rfl rfl rfl rfl ⟨rfl, rfl, rfl, rfl, rfl⟩ rfl rfl rfl rfl rfl (by kernel_rfl) Try.func3 (by kernel_rfl)
    (of_decide_eq_true (by kernel_rfl)) (by unfold Func.isWrapper; first | (rw [if_pos (by decide +kernel)]; kernel_rfl) | (rw [if_neg (by decide +kernel)]; exact ⟨rfl, rfl⟩))
    (fun os started H enc _ => lifted3 os started H enc)
end Go.Proofs.Ytpmmnnaaoideeaa
