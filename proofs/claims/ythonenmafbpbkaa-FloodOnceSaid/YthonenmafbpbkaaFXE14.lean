import Derived.Test.YthonenmafbpbkaaFXE9
set_option linter.unusedSimpArgs false
set_option linter.unusedVariables false
namespace Go.Proofs.Ythonenmafbpbkaa
open Go Go.Am
end Go.Proofs.Ythonenmafbpbkaa

namespace Go.Proofs.Ythonenmafbpbkaa
open Go Go.Am
theorem atNew {P : Program} {f : FuncId} {args : List AVal} {x : AVal} {cs cs' c2 : List AVal} (h : CFun P f args [cs] x [cs', c2]) {H : List (List AVal)} {id : Nat} (hid : H[id]? = some cs) (hcs : cs.all noid0 = true) (hcs' : cs'.all noid0 = true) (hc2 : c2.all noid0 = true)
   (ha : args.all (low 1) = true) (hx : low 2 x = true) : CFun P f (args.map (ren fun _ => id)) H (ren (grow (fun _ => id) 1 H.length) x) (H.set id cs' ++ [c2]) := by
 have hlt : id < H.length := (List.getElem?_eq_some_iff.1 hid).1
 refine h.lift (fun _ => id) (H := H) (H' := H.set id cs' ++ [c2]) (fun _ _ => hlt) (fun i j hi hj _ => by simp at hi hj; omega) (fun i c hc => ?_) ha (by simp) (fun i c hc => ?_) (fun j hj hne => ?_) hx
 · cases i with
   | zero => simp at hc; subst hc; exact ⟨by rw [noid0_map hcs]; exact hid, noid0_alllow hcs⟩
   | succ i => simp at hc
 · cases i with
   | zero =>
     simp at hc; subst hc
     refine ⟨?_, noid0_alllow hcs'⟩
     rw [noid0_map hcs']
     simp only [grow, List.length_singleton, Nat.zero_lt_one, if_true]
     rw [List.getElem?_append_left (by simpa using hlt)]
     simp [hlt]
   | succ i =>
     cases i with
     | zero =>
       simp at hc; subst hc
       refine ⟨?_, noid0_alllow hc2⟩
       rw [noid0_map hc2]
       simp [grow]
     | succ i => simp at hc
 · have := hne 0 (by simp)
   rw [List.getElem?_append_left (by simpa using hj), List.getElem?_set]
   simp [this]
end Go.Proofs.Ythonenmafbpbkaa

namespace Go.Proofs.Ythonenmafbpbkaa
open Go Go.Am
end Go.Proofs.Ythonenmafbpbkaa

namespace Go.Proofs.Ythonenmafbpbkaa
open Go Go.Am
end Go.Proofs.Ythonenmafbpbkaa

namespace Go.Proofs.Ythonenmafbpbkaa
open Go Go.Am
set_option maxHeartbeats 4000000 in
set_option maxRecDepth 10000 in
theorem f42 (a b : List Hdr) (n m : Nat) (hn : a.length = n) (hm : b.length = m) (hlen : n < 8796093022208) : CFun Try.prog 20 [.sl 7 (a.map encH) .sh, .sl 7 (b.map encH) .sh] [] (.bool (decide (a = b))) [] := by
 refine CFun.intro (tr := []) (fz := []) (n := 26) (rs := [.tmp 4]) Try.func20 rfl (by kernel_rfl) rfl rfl mixed (by kernel_rfl) (by simp) (by simp) ?_
 by_cases hnm : n = m
 case neg =>
   have : a ≠ b := by rintro rfl; exact hnm (hn.symm.trans hm)
   have hnm' : ¬ (n : Int) = m := by omega
   simp [hn, hm, hnm', this]
 subst hnm
 simp [hn, hm]
 refine LoopK.intro (tr := []) mixed (by kernel_rfl) (fun i : Nat => [(0, .sl 7 (a.map encH) .sh), (1, .sl 7 (b.map encH) .sh), (5, .int .i64 i)]) (fun _ => []) (fun i => i ≤ n ∧ (a = b ↔ a.drop i = b.drop i)) (fun i => n - i) 0 ?_ ?_ ?_
 · simp
 · simp
 · rintro i ⟨h1, h2⟩
   by_cases hi : i < n
   · obtain ⟨r, hx, hd⟩ := get_drop (l := a) (i := i) (by omega)
     obtain ⟨t, hy, he⟩ := get_drop (l := b) (i := i) (by omega)
     rw [hd, he, List.cons.injEq] at h2
     have w1 : IntKind.i64.wrap ((i : Int) + 1) = i + 1 := wrap_in (by omega)
     clear hd he
     by_cases hrt : r = t
     · subst hrt
       simp [hn, hm, hi, hx, hy, gE hx, gE hy, w1]
       exact ⟨i + 1, ⟨by omega, by simpa using h2⟩, by omega, by simp⟩
     · have hne : ¬ (a = b) := by rw [h2]; simp [hrt]
       have hor : ¬ r.Ty = t.Ty ∨ ¬ r.ID = t.ID ∨ ¬ r.Len = t.Len ∨ ¬ r.Router = t.Router ∨ ¬ r.Seq = t.Seq ∨ ¬ r.Age = t.Age ∨ ¬ r.Sum = t.Sum := by
         refine Decidable.byContradiction fun q => hrt ?_
         simp only [not_or, Decidable.not_not] at q
         cases r; cases t; simp_all
       simp [hn, hm, hi, hx, hy, gE hx, gE hy, hor, hne]
   · have e : a.drop i = [] := List.drop_of_length_le (by omega)
     have e' : b.drop i = [] := List.drop_of_length_le (by omega)
     rw [e, e'] at h2
     have : i = n := by omega
     subst this
     simp [hn, h2]
end Go.Proofs.Ythonenmafbpbkaa

namespace Go.Proofs.Ythonenmafbpbkaa
open Go Go.Am
end Go.Proofs.Ythonenmafbpbkaa

namespace Go.Proofs.Ythonenmafbpbkaa
open Go Go.Am
end Go.Proofs.Ythonenmafbpbkaa
