import Derived.Test.YtfngaildaoahpaaXE8
set_option linter.unusedSimpArgs false
set_option linter.unusedVariables false
namespace Go.Proofs.Ytfngaildaoahpaa
open Go Go.Am
end Go.Proofs.Ytfngaildaoahpaa

namespace Go.Proofs.Ytfngaildaoahpaa
open Go Go.Am
end Go.Proofs.Ytfngaildaoahpaa

namespace Go.Proofs.Ytfngaildaoahpaa
open Go Go.Am
set_option maxHeartbeats 4000000 in
set_option maxRecDepth 10000 in
theorem f42 (a b : List Hdr) (n m : Nat) (hn : a.length = n) (hm : b.length = m) (hlen : n < 8796093022208) : CFun Try.prog 38 [.sl 7 (a.map encH) .sh, .sl 7 (b.map encH) .sh] [] (.bool (decide (a = b))) [] := by
 refine CFun.intro (tr := []) (fz := []) (n := 26) (rs := [.tmp 4]) Try.func38 rfl (by kernel_rfl) rfl rfl mixed (by kernel_rfl) (by simp) (by simp) ?_
 by_cases hnm : n = m
 case neg =>
   have : a ≠ b := by rintro rfl; exact hnm (hn.symm.trans hm)
   have hnm' : ¬ (n : Int) = m := by omega
   simp [hn, hm, hnm', this]
 subst hnm
 simp [hn, hm]
 refine LoopK.intro (tr := []) mixed (by kernel_rfl) (fun i : Nat => [(0, .sl 7 (a.map encH) .sh), (1, .sl 7 (b.map encH) .sh), (5, .int .i64 i)]) (fun _ => []) (fun i => i ≤ n ∧ (a = b ↔ a.drop i = b.drop i)) (fun i => n - i) 0 ?_ ?_ ?_
 · simp
 · simp
 · rintro i ⟨h1, h2⟩
   by_cases hi : i < n
   · obtain ⟨r, hx, hd⟩ := get_drop (l := a) (i := i) (by omega)
     obtain ⟨t, hy, he⟩ := get_drop (l := b) (i := i) (by omega)
     rw [hd, he, List.cons.injEq] at h2
     have w1 : IntKind.i64.wrap ((i : Int) + 1) = i + 1 := wrap_in (by omega)
     clear hd he
     by_cases hrt : r = t
     · subst hrt
       simp [hn, hm, hi, hx, hy, gE hx, gE hy, w1]
       exact ⟨i + 1, ⟨by omega, by simpa using h2⟩, by omega, by simp⟩
     · have hne : ¬ (a = b) := by rw [h2]; simp [hrt]
       have hor : ¬ r.Ty = t.Ty ∨ ¬ r.ID = t.ID ∨ ¬ r.Len = t.Len ∨ ¬ r.Router = t.Router ∨ ¬ r.Seq = t.Seq ∨ ¬ r.Age = t.Age ∨ ¬ r.Sum = t.Sum := by
         refine Decidable.byContradiction fun q => hrt ?_
         simp only [not_or, Decidable.not_not] at q
         cases r; cases t; simp_all
       simp [hn, hm, hi, hx, hy, gE hx, gE hy, hor, hne]
   · have e : a.drop i = [] := List.drop_of_length_le (by omega)
     have e' : b.drop i = [] := List.drop_of_length_le (by omega)
     rw [e, e'] at h2
     have : i = n := by omega
     subst this
     simp [hn, h2]
end Go.Proofs.Ytfngaildaoahpaa

namespace Go.Proofs.Ytfngaildaoahpaa
open Go Go.Am
end Go.Proofs.Ytfngaildaoahpaa
