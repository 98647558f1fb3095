import Derived.Test.YtfngaildaoahpaaXE13
import Derived.Test.YtfngaildaoahpaaXE5
set_option linter.unusedSimpArgs false
set_option linter.unusedVariables false
namespace Go.Proofs.Ytfngaildaoahpaa
open Go Go.Am
end Go.Proofs.Ytfngaildaoahpaa

namespace Go.Proofs.Ytfngaildaoahpaa
open Go Go.Am
end Go.Proofs.Ytfngaildaoahpaa

namespace Go.Proofs.Ytfngaildaoahpaa
open Go Go.Am
end Go.Proofs.Ytfngaildaoahpaa

namespace Go.Proofs.Ytfngaildaoahpaa
open Go Go.Am
end Go.Proofs.Ytfngaildaoahpaa

namespace Go.Proofs.Ytfngaildaoahpaa
open Go Go.Am
end Go.Proofs.Ytfngaildaoahpaa

namespace Go.Proofs.Ytfngaildaoahpaa
open Go Go.Am
end Go.Proofs.Ytfngaildaoahpaa

namespace Go.Proofs.Ytfngaildaoahpaa
open Go Go.Am
end Go.Proofs.Ytfngaildaoahpaa

namespace Go.Proofs.Ytfngaildaoahpaa
open Go Go.Am
def tyD : Bool × List CTy := (false, [.sl true 136 csA])
def tyK : Bool × List CTy := (false, [.int .u32])
theorem rd_AD {x : AVal} (h : RdA tyA x) : ∃ l : Lsa, x = encA l ∧ okD l := by
 obtain ⟨cs, h1, h2⟩ := h
 have h3 : Rds (csA ++ []) cs := by rw [List.append_nil]; exact h2
 obtain ⟨l, r, rfl, ok, k⟩ := dec_A h3
 obtain rfl := Rds_nil k
 refine ⟨l, ?_, ok⟩
 rw [if_pos (show tyA.1 = true from rfl), List.append_nil] at h1
 exact h1
theorem rd_D {x : AVal} (h : RdA tyD x) : ∃ l : List Lsa, x = .sl 15 (l.map encA) .sh ∧ (∀ a ∈ l, okD a) ∧ l.length * 136 ≤ 140737488351232 := by
 obtain ⟨cs, h1, h2⟩ := h
 obtain ⟨l, r, rfl, k, z⟩ := Rds_sl (enc := fun x : { x : Lsa // okD x } => encA x.1) h2 (fun y cs e h => by
   obtain ⟨a, ha, oka⟩ := rd_AD (x := y) ⟨cs, e, h⟩
   exact ⟨⟨a, oka⟩, ha⟩)
 obtain rfl := Rds_nil k
 simp [tyD] at h1
 refine ⟨l.map (·.1), ?_, fun a ha => ?_, by simpa [reachBytes] using z⟩
 · rw [← h1]
   simp [csA, csH, Function.comp_def]
 · obtain ⟨y, _, rfl⟩ := List.mem_map.1 ha
   exact y.2
theorem rd_k {x : AVal} (h : RdA tyK x) : ∃ n : Int, x = .int .u32 n ∧ inW n := by
 obtain ⟨cs, h1, h⟩ := h
 obtain ⟨a1, r, rfl, h, w1⟩ := Rds_int h
 obtain rfl := Rds_nil h
 simp [tyK] at h1
 exact ⟨a1, h1.symm, wf_u32 w1⟩
end Go.Proofs.Ytfngaildaoahpaa
