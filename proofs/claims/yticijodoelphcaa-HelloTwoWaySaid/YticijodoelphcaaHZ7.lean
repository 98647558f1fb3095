/- For every configuration, address, two routers and time the law HelloTwoWay returns true. No condition. -/
import Derived.Test.YticijodoelphcaaH20
set_option linter.unusedSimpArgs false
set_option linter.unusedVariables false
namespace Go.Proofs.Yticijodoelphcaa
open Go Go.Am

theorem law7 : ∀ xs, RdAs [tyF, tyW, tyW, tyW, tyI] xs → CFun Try.prog 7 xs [] (.bool true) [] := by
  rintro xs ⟨a, r, rfl, ha, b, r, rfl, hb, c, r, rfl, hc, d, r, rfl, hd, e, r, rfl, he, rfl⟩
  obtain ⟨c, rfl, ok⟩ := rd_F ha
  obtain ⟨w, rfl, _⟩ := rd_w hb
  obtain ⟨x, rfl, _⟩ := rd_w hc
  obtain ⟨y, rfl, _⟩ := rd_w hd
  obtain ⟨t, rfl, _⟩ := rd_i he
  exact c7 c w x y t

set_option maxRecDepth 100000 in
theorem lifted7 (os : Os) (started : os.Started) (H : Type) (enc : TypeId × Value → H) :
    ReturnsInHanded {} Try.checked os 7 .any (Rows.helloTwoWaySpec.pre6 enc Try.prog Try.f7 Rows.helloTwoWayRow.domain false) (Rows.helloTwoWaySpec.post enc Try.prog Try.f7 false true false false) := by
  refine returnsInHanded_of_change_sized (C := Try.checked) own started (by kernel_rfl) Try.func7
    (ChangeSpec.witness6 (enc := enc) (C := Try.checked) (s := Rows.helloTwoWaySpec) false ⟨#[], #[.agg #[.int .i64 0, .int .u32 0, .int .i64 0, .int .u32 0, .int .u32 0, .int .i64 0, .int .i64 0, .int .i64 0, .int .i64 0], .int .u32 0, .int .u32 0, .int .u32 0, .int .i64 0], []⟩ 8 (by kernel_rfl) (by kernel_rfl) (by kernel_rfl) (by kernel_rfl)) ?_
  intro W base args ds gs before hval hW _ hsz _
  exact law_calls (f := 7) 6 [tyF, tyW, tyW, tyW, tyI] 4 (by kernel_rfl) (by kernel_rfl) rfl (by kernel_rfl) rfl (fun ds hd => by
    match ds, hd with
    | [a, b, c, d, e], _ => rfl) law7 W base args ds gs before hval hW hsz

theorem proved7 : Rows.HelloTwoWaySaid :=
  OpenClaim.holds_of_wide 7 Try.f7 rfl rfl rfl rfl rfl rfl rfl ⟨rfl, rfl, rfl, rfl, rfl⟩ rfl rfl rfl rfl rfl (by kernel_rfl) Try.func7 (by kernel_rfl)
    (of_decide_eq_true (by kernel_rfl)) (by unfold Func.isWrapper; first | (rw [if_pos (by decide +kernel)]; kernel_rfl) | (rw [if_neg (by decide +kernel)]; exact ⟨rfl, rfl⟩))
    (fun os started H enc _ => lifted7 os started H enc)
end Go.Proofs.Yticijodoelphcaa
