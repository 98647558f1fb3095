import Derived.Test.YtfngaildaoahpaaXK3
set_option linter.unusedSimpArgs false
set_option linter.unusedVariables false
namespace Go.Proofs.Ytfngaildaoahpaa
open Go Go.Am
end Go.Proofs.Ytfngaildaoahpaa

namespace Go.Proofs.Ytfngaildaoahpaa
open Go Go.Am
end Go.Proofs.Ytfngaildaoahpaa

namespace Go.Proofs.Ytfngaildaoahpaa
open Go Go.Am
set_option maxHeartbeats 2000000 in
set_option maxRecDepth 10000 in
theorem f124 (a b : List Int) (n m : Nat) (hn : a.length = n) (hm : b.length = m) (hlen : n < 140737488355328) : CFun Try.prog 71 [.sl 1 (a.map enc32) .sh, .sl 1 (b.map enc32) .sh] [] (.bool (decide (a = b))) [] := by
 refine CFun.intro (tr := []) (fz := []) (n := 26) (rs := [.tmp 4]) Try.func71 rfl (by kernel_rfl) rfl rfl mixed (by kernel_rfl) (by simp) (by simp) ?_
 by_cases hnm : n = m
 case neg =>
   have : a ≠ b := by rintro rfl; exact hnm (hn.symm.trans hm)
   have hnm' : ¬ (n : Int) = m := by omega
   simp [hn, hm, hnm', this]
 subst hnm
 simp [hn, hm]
 refine LoopK.intro (tr := []) mixed (by kernel_rfl) (fun i : Nat => [(0, .sl 1 (a.map enc32) .sh), (1, .sl 1 (b.map enc32) .sh), (5, .int .i64 i)]) (fun _ => []) (fun i => i ≤ n ∧ (a = b ↔ a.drop i = b.drop i)) (fun i => n - i) 0 ?_ ?_ ?_
 · simp
 · simp
 · rintro i ⟨h1, h2⟩
   by_cases hi : i < n
   · obtain ⟨r, hx, hd⟩ := get_drop (l := a) (i := i) (by omega)
     obtain ⟨t, hy, he⟩ := get_drop (l := b) (i := i) (by omega)
     rw [hd, he, List.cons.injEq] at h2
     have w1 : IntKind.i64.wrap ((i : Int) + 1) = i + 1 := wrap_in (by omega)
     clear hd he
     by_cases hrt : r = t
     · subst hrt
       simp [hn, hm, hi, hx, hy, gE hx, gE hy, w1]
       exact ⟨i + 1, ⟨by omega, by simpa using h2⟩, by omega, by simp⟩
     · have hne : ¬ (a = b) := by rw [h2]; simp [hrt]
       simp [hn, hm, hi, hx, hy, gE hx, gE hy, hrt, hne]
   · have e : a.drop i = [] := List.drop_of_length_le (by omega)
     have e' : b.drop i = [] := List.drop_of_length_le (by omega)
     rw [e, e'] at h2
     have : i = n := by omega
     subst this
     simp [hn, h2]
theorem hel_eq (a b : Hel) : decide (a = b) = (decide (a.Len = b.Len) && decide (a.Hello = b.Hello) && decide (a.Dead = b.Dead) && decide (a.Pri = b.Pri) && decide (a.DR = b.DR) && decide (a.BDR = b.BDR) && decide (a.Seen = b.Seen)) := by
 rw [Bool.eq_iff_iff]
 cases a; cases b
 simp [and_assoc]
set_option maxHeartbeats 2000000 in
set_option maxRecDepth 10000 in
theorem f79 (a b : Hel) (hlen : a.Seen.length < 140737488355328) : CFun Try.prog 39 [encE a, encE b] [] (.bool (decide (a = b))) [] := by
 refine CFun.intro (tr := []) (fz := []) (n := 52) (rs := [.tmp 4]) Try.func39 rfl (by kernel_rfl) rfl rfl mixed (by kernel_rfl) (by simp) (by simp) ?_
 have h1 := fun H => (f124 a.Seen b.Seen _ _ rfl rfl hlen).up' H rfl rfl
 rw [hel_eq]
 generalize decide (a.Seen = b.Seen) = w at h1 ⊢
 by_cases e1 : a.Len = b.Len
 case neg => simp [e1]
 by_cases e2 : a.Hello = b.Hello
 case neg => simp [e1, e2]
 by_cases e3 : a.Dead = b.Dead
 case neg => simp [e1, e2, e3]
 by_cases e4 : a.Pri = b.Pri
 case neg => simp [e1, e2, e3, e4]
 by_cases e5 : a.DR = b.DR
 case neg => simp [e1, e2, e3, e4, e5]
 by_cases e6 : a.BDR = b.BDR
 case neg => simp [e1, e2, e3, e4, e5, e6]
 simp [e1, e2, e3, e4, e5, e6]
 refine ⟨_, _, .inl (by simpa using h1 _), by simp, ?_⟩
 simp
end Go.Proofs.Ytfngaildaoahpaa

namespace Go.Proofs.Ytfngaildaoahpaa
open Go Go.Am
end Go.Proofs.Ytfngaildaoahpaa
