import Derived.Test.YtfngaildaoahpaaXDS31
import Derived.Test.YtfngaildaoahpaaAmY
set_option linter.unusedSimpArgs false
set_option linter.unusedVariables false
namespace Go.Proofs.Ytfngaildaoahpaa
open Go Go.Am
set_option linter.unusedSimpArgs false
end Go.Proofs.Ytfngaildaoahpaa

namespace Go.Proofs.Ytfngaildaoahpaa
open Go Go.Am
set_option linter.unusedSimpArgs false
def lsa0 : Lsa := ⟨⟨0, 0, 0, 0, 0, 0, 0⟩, false, false, [], [], 0, false, 0, 0⟩
end Go.Proofs.Ytfngaildaoahpaa

namespace Go.Proofs.Ytfngaildaoahpaa
open Go Go.Am
set_option linter.unusedSimpArgs false
end Go.Proofs.Ytfngaildaoahpaa

namespace Go.Proofs.Ytfngaildaoahpaa
open Go Go.Am
set_option linter.unusedSimpArgs false
end Go.Proofs.Ytfngaildaoahpaa

namespace Go.Proofs.Ytfngaildaoahpaa
open Go Go.Am
set_option linter.unusedSimpArgs false
end Go.Proofs.Ytfngaildaoahpaa

namespace Go.Proofs.Ytfngaildaoahpaa
open Go Go.Am
set_option linter.unusedSimpArgs false
end Go.Proofs.Ytfngaildaoahpaa

namespace Go.Proofs.Ytfngaildaoahpaa
open Go Go.Am
set_option linter.unusedSimpArgs false
end Go.Proofs.Ytfngaildaoahpaa

namespace Go.Proofs.Ytfngaildaoahpaa
open Go Go.Am
set_option linter.unusedSimpArgs false
def tyI : Bool × List CTy := (false, [.int .i64])
theorem rd_i {x : AVal} (h : RdA tyI x) : ∃ n : Int, x = .int .i64 n ∧ inI n := by
 obtain ⟨cs, h1, h2⟩ := h
 obtain ⟨n, r, rfl, h3, w⟩ := Rds_int h2
 obtain rfl := Rds_nil h3
 simp [tyI] at h1
 exact ⟨n, h1.symm, wf_i64 w⟩
end Go.Proofs.Ytfngaildaoahpaa
