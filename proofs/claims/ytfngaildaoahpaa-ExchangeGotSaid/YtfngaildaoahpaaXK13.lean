import Derived.Test.YtfngaildaoahpaaXK1
set_option linter.unusedSimpArgs false
set_option linter.unusedVariables false
namespace Go.Proofs.Ytfngaildaoahpaa
open Go Go.Am

theorem ehL_snd (h : Hdr) : (ehL h).2 = chkH h := by
  unfold ehL
  split
  · rfl
  · rename_i h1
    exact (Decidable.not_not.1 h1).symm
end Go.Proofs.Ytfngaildaoahpaa

namespace Go.Proofs.Ytfngaildaoahpaa
open Go Go.Am

/-- Code in two halves, and what is known between them. -/
theorem SWp_cut {P : Program} {tr : List Nat} {n m : Nat} {a b : Code} {Q : APost} {s : ASt} (hmx : P.follows .mixedOrders = true) (hg : good tr n a = true) (l : List (Nat × AVal)) (H : List (List AVal))
    (h1 : awp P tr n m a (thenK (fun s1 => Le m s1 l H) Q) s) (h2 : SWp P n m b Q ⟨Am.look l, H⟩) : SWp P n m (a.seq b) Q s := by
  intro G0 w0 G x w hR
  refine wp_seq (wp_mono (awp_sound hmx a _ s hg h1 G0 w0 G x w hR) ?_)
  intro e a' w' he
  cases e with
  | normal => obtain ⟨s', G', hR', hk⟩ := he; exact h2 G0 w0 G' a' w' (hR'.weaken (Le.st hk))
  | exit id => exact he
  | ret => exact he
  | goto l => exact he
  | panic c => exact he
  | outgrown => exact he
theorem SWp_of {P : Program} {tr : List Nat} {n m : Nat} {a : Code} {Q : APost} {s : ASt} (hmx : P.follows .mixedOrders = true) (hg : good tr n a = true) (h : awp P tr n m a Q s) : SWp P n m a Q s := awp_sound hmx a Q s hg h
theorem hel_iff (h : Hel) : decide (h = hel0) = (decide (h.Len = 0) && decide (h.Hello = 0) && decide (h.Dead = 0) && decide (h.Pri = 0) && decide (h.DR = 0) && decide (h.BDR = 0) && decide (h.Seen = [])) := by
  rw [Bool.eq_iff_iff]
  cases h
  simp [hel0, and_assoc]
-- lspacket.foreign
end Go.Proofs.Ytfngaildaoahpaa

namespace Go.Proofs.Ytfngaildaoahpaa
open Go Go.Am

-- routingref24.Headers
end Go.Proofs.Ytfngaildaoahpaa

namespace Go.Proofs.Ytfngaildaoahpaa
open Go Go.Am

-- lspacket.checkHello
/-- As the reference goes. -/
def lastE (l : List Int) : Nat → Int
  | 0 => 0
  | i + 1 => l.getD i 0
-- routingref24.hello
end Go.Proofs.Ytfngaildaoahpaa

namespace Go.Proofs.Ytfngaildaoahpaa
open Go Go.Am

-- routingref24.Words
set_option maxHeartbeats 2000000 in
set_option maxRecDepth 10000 in
theorem f124 (a b : List Int) (n m : Nat) (hn : a.length = n) (hm : b.length = m) (hlen : n < 140737488355328) : CFun Try.prog 71 [.sl 1 (a.map enc32) .sh, .sl 1 (b.map enc32) .sh] [] (.bool (decide (a = b))) [] := by
  refine CFun.intro (tr := []) (fz := []) (n := 26) (rs := [.tmp 4]) Try.func71 rfl (by kernel_rfl) rfl rfl mixed (by kernel_rfl) (by simp) (by simp) ?_
  by_cases hnm : n = m
  case neg =>
    have : a ≠ b := by rintro rfl; exact hnm (hn.symm.trans hm)
    have hnm' : ¬ (n : Int) = m := by omega
    simp [hn, hm, hnm', this]
  subst hnm
  simp [hn, hm]
  refine LoopK.intro (tr := []) mixed (by kernel_rfl) (fun i : Nat => [(0, .sl 1 (a.map enc32) .sh), (1, .sl 1 (b.map enc32) .sh), (5, .int .i64 i)]) (fun _ => []) (fun i => i ≤ n ∧ (a = b ↔ a.drop i = b.drop i)) (fun i => n - i) 0 ?_ ?_ ?_
  · simp
  · simp
  · rintro i ⟨h1, h2⟩
    by_cases hi : i < n
    · obtain ⟨r, hx, hd⟩ := get_drop (l := a) (i := i) (by omega)
      obtain ⟨t, hy, he⟩ := get_drop (l := b) (i := i) (by omega)
      rw [hd, he, List.cons.injEq] at h2
      have w1 : IntKind.i64.wrap ((i : Int) + 1) = i + 1 := wrap_in (by omega)
      clear hd he
      by_cases hrt : r = t
      · subst hrt
        simp [hn, hm, hi, hx, hy, gE hx, gE hy, w1]
        exact ⟨i + 1, ⟨by omega, by simpa using h2⟩, by omega, by simp⟩
      · have hne : ¬ (a = b) := by rw [h2]; simp [hrt]
        simp [hn, hm, hi, hx, hy, gE hx, gE hy, hrt, hne]
    · have e : a.drop i = [] := List.drop_of_length_le (by omega)
      have e' : b.drop i = [] := List.drop_of_length_le (by omega)
      rw [e, e'] at h2
      have : i = n := by omega
      subst this
      simp [hn, h2]
theorem hel_eq (a b : Hel) : decide (a = b) = (decide (a.Len = b.Len) && decide (a.Hello = b.Hello) && decide (a.Dead = b.Dead) && decide (a.Pri = b.Pri) && decide (a.DR = b.DR) && decide (a.BDR = b.BDR) && decide (a.Seen = b.Seen)) := by
  rw [Bool.eq_iff_iff]
  cases a; cases b
  simp [and_assoc]
-- routingref24.SameHello
set_option maxHeartbeats 2000000 in
set_option maxRecDepth 10000 in
theorem f79 (a b : Hel) (hlen : a.Seen.length < 140737488355328) : CFun Try.prog 39 [encE a, encE b] [] (.bool (decide (a = b))) [] := by
  refine CFun.intro (tr := []) (fz := []) (n := 52) (rs := [.tmp 4]) Try.func39 rfl (by kernel_rfl) rfl rfl mixed (by kernel_rfl) (by simp) (by simp) ?_
  have h1 := fun H => (f124 a.Seen b.Seen _ _ rfl rfl hlen).up' H rfl rfl
  rw [hel_eq]
  generalize decide (a.Seen = b.Seen) = w at h1 ⊢
  by_cases e1 : a.Len = b.Len
  case neg => simp [e1]
  by_cases e2 : a.Hello = b.Hello
  case neg => simp [e1, e2]
  by_cases e3 : a.Dead = b.Dead
  case neg => simp [e1, e2, e3]
  by_cases e4 : a.Pri = b.Pri
  case neg => simp [e1, e2, e3, e4]
  by_cases e5 : a.DR = b.DR
  case neg => simp [e1, e2, e3, e4, e5]
  by_cases e6 : a.BDR = b.BDR
  case neg => simp [e1, e2, e3, e4, e5, e6]
  simp [e1, e2, e3, e4, e5, e6]
  refine ⟨_, _, .inl (by simpa using h1 _), by simp, ?_⟩
  simp
-- routingref24.unused
end Go.Proofs.Ytfngaildaoahpaa

namespace Go.Proofs.Ytfngaildaoahpaa
open Go Go.Am

-- lspacket.sameHello
end Go.Proofs.Ytfngaildaoahpaa
