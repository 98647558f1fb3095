/- For every list, key and router the law LsdbAsks returns true. No condition. -/
import Derived.Test.YtmgkemffbmfmpaaE22
set_option linter.unusedSimpArgs false
set_option linter.unusedVariables false
namespace Go.Proofs.Ytmgkemffbmfmpaa
open Go Go.Am

theorem law11 : ∀ xs, RdAs [tyD, tyY, tyK] xs → CFun Try.prog 11 xs [] (.bool true) [] := by
  rintro xs ⟨a, r, rfl, ha, b, r, rfl, hb, c, r, rfl, hc, rfl⟩
  obtain ⟨db, rfl, ok, hl⟩ := rd_D ha
  obtain ⟨k, rfl⟩ := rd_Y hb
  obtain ⟨w, rfl, _⟩ := rd_k hc
  exact g11 db hl ok k w

set_option maxRecDepth 100000 in
theorem lifted11 (os : Os) (started : os.Started) (H : Type) (enc : TypeId × Value → H) :
    ReturnsInHanded {} Try.checked os 11 .any (Rows.lsdbAsksSpec.pre6 enc Try.prog Try.f11 Rows.lsdbAsksRow.domain false) (Rows.lsdbAsksSpec.post enc Try.prog Try.f11 false true false false) := by
  refine returnsInHanded_of_change_sized (C := Try.checked) own started (by kernel_rfl) Try.func11
    (ChangeSpec.witness6 (enc := enc) (C := Try.checked) (s := Rows.lsdbAsksSpec) false ⟨#[], #[.slice none 0 0, .agg #[.int .i64 0, .int .u32 0, .int .i64 0, .int .u32 0], .int .u32 0], []⟩ 8 (by kernel_rfl) (by kernel_rfl) (by kernel_rfl) (by kernel_rfl)) ?_
  intro W base args ds gs before hval hW _ hsz _
  exact law_calls (f := 11) 6 [tyD, tyY, tyK] 4 (by kernel_rfl) (by kernel_rfl) rfl (by kernel_rfl) rfl (fun ds hd => by
    match ds, hd with
    | [a, b, c], _ => rfl) law11 W base args ds gs before hval hW hsz

theorem proved11 : Rows.LsdbAsksSaid :=
  OpenClaim.holds_of_wide 11 Try.f11 rfl rfl rfl rfl rfl rfl rfl ⟨rfl, rfl, rfl, rfl, rfl⟩ rfl rfl rfl rfl rfl (by kernel_rfl) Try.func11 (by kernel_rfl)
    (of_decide_eq_true (by kernel_rfl)) (by unfold Func.isWrapper; first | (rw [if_pos (by decide +kernel)]; kernel_rfl) | (rw [if_neg (by decide +kernel)]; exact ⟨rfl, rfl⟩))
    (fun os started H enc _ => lifted11 os started H enc)
end Go.Proofs.Ytmgkemffbmfmpaa
