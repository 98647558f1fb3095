/- The exchange of databases: records. -/
import Derived.Test.YtfngaildaoahpaaXC2
import Derived.Test.YtfngaildaoahpaaAmAA
set_option linter.unusedSimpArgs false
set_option linter.unusedVariables false
namespace Go.Proofs.Ytfngaildaoahpaa
open Go Go.Am
end Go.Proofs.Ytfngaildaoahpaa

/- Rows of headers: the library's functions. -/
namespace Go.Proofs.Ytfngaildaoahpaa
open Go Go.Am
end Go.Proofs.Ytfngaildaoahpaa

/- The exchange of databases: what is pending, what is requested, what is sent again. -/
namespace Go.Proofs.Ytfngaildaoahpaa
open Go Go.Am
end Go.Proofs.Ytfngaildaoahpaa

/- The exchange of databases: rows of packets; what a statement asks of a neighbor. -/
namespace Go.Proofs.Ytfngaildaoahpaa
open Go Go.Am
set_option maxHeartbeats 4000000 in
set_option maxRecDepth 10000 in
theorem x18 (l : List Pkt) (n : Nat) (hn : l.length = n) (hlen : n < 1099511627776) (ok : ∀ p ∈ l, okS p ∧ sameP p p = true) : CFun Try.prog 18 [.sl 18 (l.map encPk) .sh, .sl 18 (l.map encPk) .sh] [] (.bool true) [] := by
 refine CFun.intro (tr := []) (fz := []) (n := 27) (rs := [.tmp 4]) Try.func18 rfl (by kernel_rfl) rfl rfl mixed (by kernel_rfl) (by simp) (by simp) ?_
 simp [hn]
 refine LoopK.intro (tr := []) mixed (by kernel_rfl) (fun i : Nat => [(0, .sl 18 (l.map encPk) .sh), (1, .sl 18 (l.map encPk) .sh), (5, .int .i64 i)]) (fun _ => []) (fun i => i ≤ n) (fun i => n - i) 0 ?_ ?_ ?_
 · simp
 · simp
 · rintro i h1
   by_cases hi : i < n
   · obtain ⟨x, hx, hd⟩ := get_drop (l := l) (i := i) (by omega)
     have w1 : IntKind.i64.wrap ((i : Int) + 1) = i + 1 := wrap_in (by omega)
     obtain ⟨o1, o2⟩ := ok x (List.mem_of_getElem? hx)
     have h := fun H => (f23 x x o1).up' H rfl rfl
     rw [o2] at h
     clear hd
     simp [hi, hn, hx, gE hx]
     refine ⟨_, _, .inl (by simpa using h _), by simp, ?_⟩
     simp [w1]
     exact ⟨i + 1, by omega, by omega, by simp⟩
   · simp [hi, hn]
end Go.Proofs.Ytfngaildaoahpaa
