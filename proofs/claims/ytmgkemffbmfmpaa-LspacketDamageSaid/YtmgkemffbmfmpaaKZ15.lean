/- For every packet, place and byte the law LspacketDamage returns true: an encoding that is cut off or in which one byte is another one is not decoded. No condition. -/
import Derived.Test.YtmgkemffbmfmpaaK41
set_option linter.unusedSimpArgs false
set_option linter.unusedVariables false
namespace Go.Proofs.Ytmgkemffbmfmpaa
open Go Go.Am

theorem law15 : ∀ xs, RdAs [tyP, tyI, tyU] xs → CFun Try.prog 15 xs [] (.bool true) [] := by
  rintro xs ⟨a, r, rfl, ha, b, r, rfl, hb, c, r, rfl, hc, rfl⟩
  obtain ⟨p, rfl, hp, hk⟩ := rd_Pk2 ha
  obtain ⟨i, rfl, hi⟩ := rd_i hb
  obtain ⟨u, rfl, hu⟩ := rd_u hc
  exact g15 p hp.ok (okPq_of hp hk) i u hi hu

set_option maxRecDepth 100000 in
theorem lifted15 (os : Os) (started : os.Started) (H : Type) (enc : TypeId × Value → H) :
    ReturnsInHanded {} Try.checked os 15 .any (Rows.lspacketDamageSpec.pre6 enc Try.prog Try.f15 Rows.lspacketDamageRow.domain false) (Rows.lspacketDamageSpec.post enc Try.prog Try.f15 false true false false) := by
  refine returnsInHanded_of_change_sized (C := Try.checked) own started (by kernel_rfl) Try.func15
    (ChangeSpec.witness6 (enc := enc) (C := Try.checked) (s := Rows.lspacketDamageSpec) false ⟨#[], #[.agg #[.int .i64 0, .int .u32 0, .int .u32 0, .int .u32 0, .int .i64 0, .int .i64 0, .int .i64 0, .int .i64 0, .int .u32 0, .int .u32 0, .slice none 0 0, .int .i64 0, .bool false, .bool false, .bool false, .slice none 0 0, .slice none 0 0, .slice none 0 0], .int .i64 0, .int .u8 0], []⟩ 8 (by kernel_rfl) (by kernel_rfl) (by kernel_rfl) (by kernel_rfl)) ?_
  intro W base args ds gs before hval hW _ hsz _
  exact law_calls (f := 15) 6 [tyP, tyI, tyU] 4 (by kernel_rfl) (by kernel_rfl) rfl (by kernel_rfl) rfl (fun ds hd => by
    match ds, hd with
    | [a, b, c], _ => rfl) law15 W base args ds gs before hval hW hsz

theorem proved15 : Rows.LspacketDamageSaid :=
  OpenClaim.holds_of_wide 15 Try.f15 rfl rfl rfl rfl rfl rfl rfl ⟨rfl, rfl, rfl, rfl, rfl⟩ rfl rfl rfl rfl rfl (by kernel_rfl) Try.func15 (by kernel_rfl)
    (of_decide_eq_true (by kernel_rfl)) (by unfold Func.isWrapper; first | (rw [if_pos (by decide +kernel)]; kernel_rfl) | (rw [if_neg (by decide +kernel)]; exact ⟨rfl, rfl⟩))
    (fun os started H enc _ => lifted15 os started H enc)
end Go.Proofs.Ytmgkemffbmfmpaa
