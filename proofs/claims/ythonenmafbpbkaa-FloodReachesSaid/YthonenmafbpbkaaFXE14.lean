import Derived.Test.YthonenmafbpbkaaFXE9
set_option linter.unusedSimpArgs false
set_option linter.unusedVariables false
namespace Go.Proofs.Ythonenmafbpbkaa
open Go Go.Am
end Go.Proofs.Ythonenmafbpbkaa

namespace Go.Proofs.Ythonenmafbpbkaa
open Go Go.Am
theorem atNew {P : Program} {f : FuncId} {args : List AVal} {x : AVal} {cs cs' c2 : List AVal} (h : CFun P f args [cs] x [cs', c2]) {H : List (List AVal)} {id : Nat} (hid : H[id]? = some cs) (hcs : cs.all noid0 = true) (hcs' : cs'.all noid0 = true) (hc2 : c2.all noid0 = true)
   (ha : args.all (low 1) = true) (hx : low 2 x = true) : CFun P f (args.map (ren fun _ => id)) H (ren (grow (fun _ => id) 1 H.length) x) (H.set id cs' ++ [c2]) := by
 have hlt : id < H.length := (List.getElem?_eq_some_iff.1 hid).1
 refine h.lift (fun _ => id) (H := H) (H' := H.set id cs' ++ [c2]) (fun _ _ => hlt) (fun i j hi hj _ => by simp at hi hj; omega) (fun i c hc => ?_) ha (by simp) (fun i c hc => ?_) (fun j hj hne => ?_) hx
 · cases i with
   | zero => simp at hc; subst hc; exact ⟨by rw [noid0_map hcs]; exact hid, noid0_alllow hcs⟩
   | succ i => simp at hc
 · cases i with
   | zero =>
     simp at hc; subst hc
     refine ⟨?_, noid0_alllow hcs'⟩
     rw [noid0_map hcs']
     simp only [grow, List.length_singleton, Nat.zero_lt_one, if_true]
     rw [List.getElem?_append_left (by simpa using hlt)]
     simp [hlt]
   | succ i =>
     cases i with
     | zero =>
       simp at hc; subst hc
       refine ⟨?_, noid0_alllow hc2⟩
       rw [noid0_map hc2]
       simp [grow]
     | succ i => simp at hc
 · have := hne 0 (by simp)
   rw [List.getElem?_append_left (by simpa using hj), List.getElem?_set]
   simp [this]
end Go.Proofs.Ythonenmafbpbkaa

namespace Go.Proofs.Ythonenmafbpbkaa
open Go Go.Am
def insW (b : Lsa) : Bool → List Lsa → List Lsa
 | done, [] => if done = true then [] else [b]
 | done, x :: xs => (if done = false ∧ cmpY (keyA b) (keyA x) ≤ 0 then [b] else []) ++ ((if cmpY (keyA b) (keyA x) ≠ 0 then [x] else []) ++ insW b (done || decide (cmpY (keyA b) (keyA x) ≤ 0)) xs)
theorem ldH (x : Lsa) : aload (some (true, 7)) (cellsA x) 0 = some (encH x.H) := by simp
theorem ldA (x : Lsa) : aload (some (true, 15)) (cellsA x) 0 = some (.agg (cellsA x)) := by simp
theorem lenA (x : Lsa) : (cellsA x).length = 15 := rfl
theorem disA (x : Lsa) : (cellsA x).map AVal.dis = cellsA x := rfl
set_option maxHeartbeats 1000000 in
set_option maxRecDepth 10000 in
theorem f88 (l : List Lsa) (n : Nat) (hn : l.length = n) (hlen : n < 100000000) (b : Lsa) : CFun Try.prog 33 [.sl 15 (l.map encA) .sh, encA b] [] (.sl 15 ((insW b false l).map encA) .sh) [] := by
 refine CFun.intro (tr := [47]) (fz := []) (n := 52) (rs := [.tmp 4]) Try.func33 rfl (by kernel_rfl) rfl rfl mixed (by kernel_rfl) (by simp) (by simp) ?_
 simp
 refine LoopK.intro (tr := [32, 38]) mixed (by kernel_rfl) (fun q : Nat × Bool × List Lsa => [(0, .sl 15 (l.map encA) .sh), (3, .ptr 0 0), (5, .sl 15 (q.2.2.map encA) .own), (6, .bool q.2.1), (7, .int .i64 q.1)]) (fun _ => [cellsA b])
   (fun q => q.1 ≤ n ∧ q.2.2.length ≤ 2 * q.1 ∧ q.2.2 ++ insW b q.2.1 (l.drop q.1) = insW b false l) (fun q => n - q.1) (0, false, []) ?_ ?_ ?_
 · simp
 · simp
 · rintro ⟨i, d, o⟩ ⟨h1, h3, h2⟩
   simp only at h1 h2 h3
   have ho : o.length ≤ 200000000 := by omega
   by_cases hi : i < n
   · have s1 : o.length + 1 ≤ 140737488355328 := Nat.le_trans (Nat.succ_le_succ ho) (by decide)
     have s2 : (o.length + 1) * 136 ≤ 140737488355328 := Nat.le_trans (Nat.mul_le_mul_right 136 (Nat.succ_le_succ ho)) (by decide)
     have s3 : o.length + 1 + 1 ≤ 140737488355328 := Nat.le_trans (Nat.succ_le_succ (Nat.succ_le_succ ho)) (by decide)
     have s4 : (o.length + 1 + 1) * 136 ≤ 140737488355328 := Nat.le_trans (Nat.mul_le_mul_right 136 (Nat.succ_le_succ (Nat.succ_le_succ ho))) (by decide)
     obtain ⟨x, hx, hd⟩ := get_drop (l := l) (i := i) (by omega)
     rw [hd] at h2
     have w1 : IntKind.i64.wrap ((i : Int) + 1) = i + 1 := wrap_in (by omega)
     have hb := fun H => (c26 b.H).up' H rfl rfl
     have hK := fun H => (c26 x.H).up' H rfl rfl
     have hC := fun H => (c28 (keyH b.H) (keyH x.H)).up' H rfl rfl
     have hkk : cmpY (keyA b) (keyA x) = cmpY (keyH b.H) (keyH x.H) := rfl
     simp only [insW, hkk] at h2
     generalize keyH b.H = kb at hb hC h2
     generalize keyH x.H = kx at hK hC h2
     clear hd
     simp [hi, hn, hx, gE hx, ldH, ldA, lenA, disA, -cellsA, -aload]
     refine ⟨_, _, .inl (by simpa [-cellsA] using hb _), by simp, ?_⟩
     simp [hi, hn, hx, gE hx, ldH, ldA, lenA, disA, -cellsA, -aload]
     refine ⟨_, _, .inl (by simpa [-cellsA] using hK _), by simp, ?_⟩
     simp [-cellsA]
     refine ⟨_, _, .inl (by simpa [-cellsA] using hC _), by simp, ?_⟩
     generalize cmpY kb kx = c at h2
     cases d
     · by_cases e1 : c ≤ 0
       · rw [if_pos ⟨rfl, e1⟩, decide_eq_true e1] at h2
         by_cases e2 : c = 0
         · rw [if_neg (by simpa [-cellsA] using e2)] at h2
           subst e2
           simp [s1, s2, w1, ldA, lenA, disA, -cellsA, -aload]
           exact ⟨i + 1, o ++ [b], ⟨by omega, by simp; omega, by simpa [-cellsA] using h2⟩, by omega, by simp⟩
         · rw [if_pos e2] at h2
           simp [e1, e2, s1, s2, s3, s4, w1, hi, hn, hx, gE hx, ldA, lenA, disA, -cellsA, -aload]
           exact ⟨i + 1, o ++ [b] ++ [x], ⟨by omega, by simp; omega, by simpa [-cellsA] using h2⟩, by omega, by simp⟩
       · have e2 : c ≠ 0 := by omega
         rw [if_neg (by simp [e1]), decide_eq_false e1, if_pos e2] at h2
         simp [e1, e2, s1, s2, w1, hi, hn, hx, gE hx, ldA, lenA, disA, -cellsA, -aload]
         exact ⟨i + 1, o ++ [x], ⟨by omega, by simp; omega, by simpa [-cellsA] using h2⟩, by omega, by simp⟩
     · rw [if_neg (by simp), Bool.true_or] at h2
       by_cases e2 : c = 0
       · rw [if_neg (by simpa [-cellsA] using e2)] at h2
         simp [e2, w1]
         exact ⟨i + 1, o, ⟨by omega, by omega, by simpa [-cellsA] using h2⟩, by omega, by simp⟩
       · rw [if_pos e2] at h2
         simp [e2, s1, s2, w1, hi, hn, hx, gE hx, ldA, lenA, disA, -cellsA, -aload]
         exact ⟨i + 1, o ++ [x], ⟨by omega, by simp; omega, by simpa [-cellsA] using h2⟩, by omega, by simp⟩
   · have : i = n := by omega
     subst this
     rw [List.drop_eq_nil_of_le (by omega)] at h2
     have s1 : o.length + 1 ≤ 140737488355328 := by omega
     have s2 : (o.length + 1) * 136 ≤ 140737488355328 := by omega
     cases d
     · simp [insW] at h2
       simp [hn, s1, s2, ← h2, ldA, lenA, disA, -cellsA, -aload]
     · simp [insW] at h2
       simp [hn, ← h2]
end Go.Proofs.Ythonenmafbpbkaa

namespace Go.Proofs.Ythonenmafbpbkaa
open Go Go.Am
end Go.Proofs.Ythonenmafbpbkaa

namespace Go.Proofs.Ythonenmafbpbkaa
open Go Go.Am
set_option maxHeartbeats 4000000 in
set_option maxRecDepth 10000 in
theorem f42 (a b : List Hdr) (n m : Nat) (hn : a.length = n) (hm : b.length = m) (hlen : n < 8796093022208) : CFun Try.prog 20 [.sl 7 (a.map encH) .sh, .sl 7 (b.map encH) .sh] [] (.bool (decide (a = b))) [] := by
 refine CFun.intro (tr := []) (fz := []) (n := 26) (rs := [.tmp 4]) Try.func20 rfl (by kernel_rfl) rfl rfl mixed (by kernel_rfl) (by simp) (by simp) ?_
 by_cases hnm : n = m
 case neg =>
   have : a ≠ b := by rintro rfl; exact hnm (hn.symm.trans hm)
   have hnm' : ¬ (n : Int) = m := by omega
   simp [hn, hm, hnm', this]
 subst hnm
 simp [hn, hm]
 refine LoopK.intro (tr := []) mixed (by kernel_rfl) (fun i : Nat => [(0, .sl 7 (a.map encH) .sh), (1, .sl 7 (b.map encH) .sh), (5, .int .i64 i)]) (fun _ => []) (fun i => i ≤ n ∧ (a = b ↔ a.drop i = b.drop i)) (fun i => n - i) 0 ?_ ?_ ?_
 · simp
 · simp
 · rintro i ⟨h1, h2⟩
   by_cases hi : i < n
   · obtain ⟨r, hx, hd⟩ := get_drop (l := a) (i := i) (by omega)
     obtain ⟨t, hy, he⟩ := get_drop (l := b) (i := i) (by omega)
     rw [hd, he, List.cons.injEq] at h2
     have w1 : IntKind.i64.wrap ((i : Int) + 1) = i + 1 := wrap_in (by omega)
     clear hd he
     by_cases hrt : r = t
     · subst hrt
       simp [hn, hm, hi, hx, hy, gE hx, gE hy, w1]
       exact ⟨i + 1, ⟨by omega, by simpa using h2⟩, by omega, by simp⟩
     · have hne : ¬ (a = b) := by rw [h2]; simp [hrt]
       have hor : ¬ r.Ty = t.Ty ∨ ¬ r.ID = t.ID ∨ ¬ r.Len = t.Len ∨ ¬ r.Router = t.Router ∨ ¬ r.Seq = t.Seq ∨ ¬ r.Age = t.Age ∨ ¬ r.Sum = t.Sum := by
         refine Decidable.byContradiction fun q => hrt ?_
         simp only [not_or, Decidable.not_not] at q
         cases r; cases t; simp_all
       simp [hn, hm, hi, hx, hy, gE hx, gE hy, hor, hne]
   · have e : a.drop i = [] := List.drop_of_length_le (by omega)
     have e' : b.drop i = [] := List.drop_of_length_le (by omega)
     rw [e, e'] at h2
     have : i = n := by omega
     subst this
     simp [hn, h2]
end Go.Proofs.Ythonenmafbpbkaa

namespace Go.Proofs.Ythonenmafbpbkaa
open Go Go.Am
end Go.Proofs.Ythonenmafbpbkaa

namespace Go.Proofs.Ythonenmafbpbkaa
open Go Go.Am
end Go.Proofs.Ythonenmafbpbkaa
