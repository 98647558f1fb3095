import Derived.Test.YtfngaildaoahpaaXE17
import Derived.Test.YtfngaildaoahpaaXE3
set_option linter.unusedSimpArgs false
set_option linter.unusedVariables false
namespace Go.Proofs.Ytfngaildaoahpaa
open Go Go.Am
end Go.Proofs.Ytfngaildaoahpaa

namespace Go.Proofs.Ytfngaildaoahpaa
open Go Go.Am
end Go.Proofs.Ytfngaildaoahpaa

namespace Go.Proofs.Ytfngaildaoahpaa
open Go Go.Am
end Go.Proofs.Ytfngaildaoahpaa

namespace Go.Proofs.Ytfngaildaoahpaa
open Go Go.Am
def tyD : Bool × List CTy := (false, [.sl true 136 csA])
theorem rd_AD {x : AVal} (h : RdA tyA x) : ∃ l : Lsa, x = encA l ∧ okD l := by
 obtain ⟨cs, h1, h2⟩ := h
 have h3 : Rds (csA ++ []) cs := by rw [List.append_nil]; exact h2
 obtain ⟨l, r, rfl, ok, k⟩ := dec_A h3
 obtain rfl := Rds_nil k
 refine ⟨l, ?_, ok⟩
 rw [if_pos (show tyA.1 = true from rfl), List.append_nil] at h1
 exact h1
theorem rd_D {x : AVal} (h : RdA tyD x) : ∃ l : List Lsa, x = .sl 15 (l.map encA) .sh ∧ (∀ a ∈ l, okD a) ∧ l.length * 136 ≤ 140737488351232 := by
 obtain ⟨cs, h1, h2⟩ := h
 obtain ⟨l, r, rfl, k, z⟩ := Rds_sl (enc := fun x : { x : Lsa // okD x } => encA x.1) h2 (fun y cs e h => by
   obtain ⟨a, ha, oka⟩ := rd_AD (x := y) ⟨cs, e, h⟩
   exact ⟨⟨a, oka⟩, ha⟩)
 obtain rfl := Rds_nil k
 simp [tyD] at h1
 refine ⟨l.map (·.1), ?_, fun a ha => ?_, by simpa [reachBytes] using z⟩
 · rw [← h1]
   simp [csA, csH, Function.comp_def]
 · obtain ⟨y, _, rfl⟩ := List.mem_map.1 ha
   exact y.2
end Go.Proofs.Ytfngaildaoahpaa
