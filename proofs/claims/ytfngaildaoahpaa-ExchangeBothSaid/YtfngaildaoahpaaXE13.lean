import Derived.Test.YtfngaildaoahpaaXE5
set_option linter.unusedSimpArgs false
set_option linter.unusedVariables false
namespace Go.Proofs.Ytfngaildaoahpaa
open Go Go.Am
end Go.Proofs.Ytfngaildaoahpaa

namespace Go.Proofs.Ytfngaildaoahpaa
open Go Go.Am
def prevA (l : List Lsa) : Nat → Option Lsa
 | 0 => none
 | i + 1 => l[i]?
theorem encL_cases (x : Lsa) : sealE x = if chkA x ≠ 0 then chkA x else if x.H.Sum = sumA x then 0 else 13 := by
 unfold sealE
 split
 · rfl
 · split <;> simp_all
set_option maxHeartbeats 8000000 in
set_option maxRecDepth 10000 in
theorem f67 (l : List Lsa) (n : Nat) (hn : l.length = n) (hlen : n < 1099511627776) (ok : ∀ x ∈ l, okA x) : CFun Try.prog 41 [.sl 15 (l.map encA) .sh] [] (.int .i64 (rowsE none l)) [] := by
 refine CFun.intro (tr := []) (fz := []) (n := 44) (rs := [.tmp 2]) Try.func41 rfl (by kernel_rfl) rfl rfl mixed (by kernel_rfl) (by simp) (by simp) ?_
 simp
 refine LoopK.intro (tr := []) mixed (by kernel_rfl) (fun i : Nat => [(0, .sl 15 (l.map encA) .sh), (3, .int .i64 i)]) (fun _ => []) (fun i => i ≤ n ∧ rowsE none l = rowsE (prevA l i) (l.drop i)) (fun i => n - i) 0 ?_ ?_ ?_
 · simp [prevA]
 · simp
 · rintro i ⟨h1, h2⟩
   by_cases hi : i < n
   · obtain ⟨x, hx, hd⟩ := get_drop (l := l) (i := i) (by omega)
     rw [hd] at h2
     have w1 : IntKind.i64.wrap ((i : Int) + 1) = i + 1 := wrap_in (by omega)
     have okx := ok x (List.mem_of_getElem? hx)
     have h33 := fun H => (c14 x okx).up' H rfl rfl
     have hK := fun H => (c26 x.H).up' H rfl rfl
     simp only [rowsE] at h2
     simp [hi, hn, hx, gE hx]
     refine ⟨_, _, .inl (by simpa using h33 _), by simp, ?_⟩
     have hse := encL_cases x
     by_cases e0 : chkA x = 0
     case neg =>
       rw [if_pos e0] at hse
       rw [hse, if_pos e0] at h2
       simp [e0, h2]
     have hl := chkA_len e0
     have h34 := fun H => (c22 x hl.1 hl.2).up' H rfl rfl
     rw [if_neg (by simpa using e0)] at hse
     clear hd
     simp [e0, hi, hn, hx, gE hx]
     refine ⟨_, _, .inl (by simpa using h34 _), by simp, ?_⟩
     by_cases e1 : x.H.Sum = sumA x
     case neg =>
       rw [if_neg e1] at hse
       rw [hse] at h2
       simp at h2
       simp [e1, h2]
     rw [if_pos e1] at hse
     rw [hse] at h2
     simp only [ne_eq, not_true, if_false] at h2
     cases i with
     | zero =>
       have w0 : IntKind.i64.wrap 1 = 1 := by decide
       simp only [prevA] at h2
       simp [e1, w0]
       exact ⟨1, ⟨by omega, by simpa [prevA, hx] using h2⟩, by omega, by simp⟩
     | succ j =>
       obtain ⟨q, hq, _⟩ := get_drop (l := l) (i := j) (by omega)
       simp only [prevA, hq] at h2
       have w2 : IntKind.i64.wrap (j : Int) = j := wrap_in (by omega)
       have h0 : (0 : Int) < ((j + 1 : Nat) : Int) := by omega
       have hjn : j < n := by omega
       have hKq := fun H => (c26 q.H).up' H rfl rfl
       have hC := fun H => (c28 (keyH q.H) (keyH x.H)).up' H rfl rfl
       have hkk : cmpY (keyA q) (keyA x) = cmpY (keyH q.H) (keyH x.H) := rfl
       rw [hkk] at h2
       generalize keyH q.H = kq at hKq hC h2
       generalize keyH x.H = kx at hK hC h2
       simp only [Int.natCast_add, Int.natCast_one] at w1 h0
       have hj0 : (0 : Int) ≤ (j : Int) + 1 := by omega
       simp [e1, w2, h0, hn, hq, gE hq, hjn, hx, gE hx, hi]
       refine ⟨_, _, .inl (by simpa using hKq _), by simp, ?_⟩
       simp [hn, hx, gE hx, hi, hj0]
       refine ⟨_, _, .inl (by simpa using hK _), by simp, ?_⟩
       simp
       refine ⟨_, _, .inl (by simpa using hC _), by simp, ?_⟩
       by_cases ho : 0 ≤ cmpY kq kx
       · simp [ho] at h2
         simp [ho, h2]
       · simp [ho] at h2
         have w3 : IntKind.i64.wrap ((j : Int) + 2) = j + 2 := wrap_in (by omega)
         simp [ho, w1, w3]
         exact ⟨j + 1 + 1, ⟨by omega, by simpa [prevA, hx] using h2⟩, by omega, by simp⟩
   · have e : l.drop i = [] := List.drop_of_length_le (by omega)
     rw [e] at h2
     simp [rowsE] at h2
     simp [hi, hn, h2]
set_option maxHeartbeats 4000000 in
set_option maxRecDepth 10000 in
theorem f24 (l : List Lsa) (n : Nat) (hn : l.length = n) (hlen : n < 1099511627776) (ok : ∀ x ∈ l, okA x) : CFun Try.prog 15 [.sl 15 (l.map encA) .sh] [] (.int .i64 (chkD l)) [] := by
 refine CFun.intro (tr := []) (fz := []) (n := 8) (rs := [.tmp 2]) Try.func15 rfl (by kernel_rfl) rfl rfl mixed (by kernel_rfl) (by simp) (by simp) ?_
 have h := f67 l n hn hlen ok
 unfold chkD
 by_cases h64 : 2000 < n
 · have h64' : (2000 : Int) < n := by omega
   simp [hn, h64, h64']
 · have h64' : ¬ (2000 : Int) < n := by omega
   simp [hn, h64, h64']
   refine ⟨_, _, .inl (by simpa using h), by simp, ?_⟩
   simp
end Go.Proofs.Ytfngaildaoahpaa

namespace Go.Proofs.Ytfngaildaoahpaa
open Go Go.Am
end Go.Proofs.Ytfngaildaoahpaa

namespace Go.Proofs.Ytfngaildaoahpaa
open Go Go.Am
end Go.Proofs.Ytfngaildaoahpaa

namespace Go.Proofs.Ytfngaildaoahpaa
open Go Go.Am
def insW (b : Lsa) : Bool → List Lsa → List Lsa
 | done, [] => if done = true then [] else [b]
 | done, x :: xs => (if done = false ∧ cmpY (keyA b) (keyA x) ≤ 0 then [b] else []) ++ ((if cmpY (keyA b) (keyA x) ≠ 0 then [x] else []) ++ insW b (done || decide (cmpY (keyA b) (keyA x) ≤ 0)) xs)
theorem ldH (x : Lsa) : aload (some (true, 7)) (cellsA x) 0 = some (encH x.H) := by simp
theorem ldA (x : Lsa) : aload (some (true, 15)) (cellsA x) 0 = some (.agg (cellsA x)) := by simp
theorem lenA (x : Lsa) : (cellsA x).length = 15 := rfl
theorem disA (x : Lsa) : (cellsA x).map AVal.dis = cellsA x := rfl
theorem insW_true (b : Lsa) : ∀ xs : List Lsa, (∀ x ∈ xs, keyA b ≠ keyA x) → insW b true xs = xs := by
 intro xs
 induction xs with
 | nil => intro _; rfl
 | cons x xs ih =>
   intro h
   have h1 : cmpY (keyA b) (keyA x) ≠ 0 := fun e => h x (by simp) ((cmpY_zero _ _).1 e)
   simp only [insW]
   rw [if_neg (by simp), if_pos h1, Bool.true_or, ih fun y hy => h y (List.mem_cons_of_mem _ hy)]
   rfl
theorem insW_put (b : Lsa) : ∀ {xs : List Lsa}, asc xs → insW b false xs = putW b xs := by
 intro xs
 induction xs with
 | nil => intro _; rfl
 | cons x xs ih =>
   intro h
   simp only [asc, List.pairwise_cons] at h
   simp only [insW, putW, Bool.false_or]
   by_cases h1 : ltY (keyA b) (keyA x)
   · have h1' : cmpY (keyA b) (keyA x) < 0 := h1
     rw [if_pos h1, if_pos ⟨trivial, by omega⟩, if_pos (by omega), decide_eq_true (by omega), insW_true]
     · rfl
     · intro y hy
       exact ltY_ne (ltY_trans h1 (h.1 y hy))
   · have h1' : ¬ cmpY (keyA b) (keyA x) < 0 := h1
     rw [if_neg h1]
     by_cases h2 : keyA b = keyA x
     · have e : cmpY (keyA b) (keyA x) = 0 := (cmpY_zero _ _).2 h2
       rw [if_pos h2, e, if_pos ⟨trivial, by omega⟩, if_neg (by omega), decide_eq_true (by omega), insW_true]
       · rfl
       · intro y hy
         rw [h2]
         exact ltY_ne (h.1 y hy)
     · have e : cmpY (keyA b) (keyA x) ≠ 0 := fun q => h2 ((cmpY_zero _ _).1 q)
       rw [if_neg h2, if_neg (by omega), if_pos e, decide_eq_false (by omega), ih h.2]
       rfl
set_option maxHeartbeats 1000000 in
set_option maxRecDepth 10000 in
theorem f88 (l : List Lsa) (n : Nat) (hn : l.length = n) (hlen : n < 100000000) (b : Lsa) : CFun Try.prog 68 [.sl 15 (l.map encA) .sh, encA b] [] (.sl 15 ((insW b false l).map encA) .sh) [] := by
 refine CFun.intro (tr := [47]) (fz := []) (n := 52) (rs := [.tmp 4]) Try.func68 rfl (by kernel_rfl) rfl rfl mixed (by kernel_rfl) (by simp) (by simp) ?_
 simp
 refine LoopK.intro (tr := [32, 38]) mixed (by kernel_rfl) (fun q : Nat × Bool × List Lsa => [(0, .sl 15 (l.map encA) .sh), (3, .ptr 0 0), (5, .sl 15 (q.2.2.map encA) .own), (6, .bool q.2.1), (7, .int .i64 q.1)]) (fun _ => [cellsA b])
   (fun q => q.1 ≤ n ∧ q.2.2.length ≤ 2 * q.1 ∧ q.2.2 ++ insW b q.2.1 (l.drop q.1) = insW b false l) (fun q => n - q.1) (0, false, []) ?_ ?_ ?_
 · simp
 · simp
 · rintro ⟨i, d, o⟩ ⟨h1, h3, h2⟩
   simp only at h1 h2 h3
   have ho : o.length ≤ 200000000 := by omega
   by_cases hi : i < n
   · have s1 : o.length + 1 ≤ 140737488355328 := Nat.le_trans (Nat.succ_le_succ ho) (by decide)
     have s2 : (o.length + 1) * 136 ≤ 140737488355328 := Nat.le_trans (Nat.mul_le_mul_right 136 (Nat.succ_le_succ ho)) (by decide)
     have s3 : o.length + 1 + 1 ≤ 140737488355328 := Nat.le_trans (Nat.succ_le_succ (Nat.succ_le_succ ho)) (by decide)
     have s4 : (o.length + 1 + 1) * 136 ≤ 140737488355328 := Nat.le_trans (Nat.mul_le_mul_right 136 (Nat.succ_le_succ (Nat.succ_le_succ ho))) (by decide)
     obtain ⟨x, hx, hd⟩ := get_drop (l := l) (i := i) (by omega)
     rw [hd] at h2
     have w1 : IntKind.i64.wrap ((i : Int) + 1) = i + 1 := wrap_in (by omega)
     have hb := fun H => (c26 b.H).up' H rfl rfl
     have hK := fun H => (c26 x.H).up' H rfl rfl
     have hC := fun H => (c28 (keyH b.H) (keyH x.H)).up' H rfl rfl
     have hkk : cmpY (keyA b) (keyA x) = cmpY (keyH b.H) (keyH x.H) := rfl
     simp only [insW, hkk] at h2
     generalize keyH b.H = kb at hb hC h2
     generalize keyH x.H = kx at hK hC h2
     clear hd
     simp [hi, hn, hx, gE hx, ldH, ldA, lenA, disA, -cellsA, -aload]
     refine ⟨_, _, .inl (by simpa [-cellsA] using hb _), by simp, ?_⟩
     simp [hi, hn, hx, gE hx, ldH, ldA, lenA, disA, -cellsA, -aload]
     refine ⟨_, _, .inl (by simpa [-cellsA] using hK _), by simp, ?_⟩
     simp [-cellsA]
     refine ⟨_, _, .inl (by simpa [-cellsA] using hC _), by simp, ?_⟩
     generalize cmpY kb kx = c at h2
     cases d
     · by_cases e1 : c ≤ 0
       · rw [if_pos ⟨rfl, e1⟩, decide_eq_true e1] at h2
         by_cases e2 : c = 0
         · rw [if_neg (by simpa [-cellsA] using e2)] at h2
           subst e2
           simp [s1, s2, w1, ldA, lenA, disA, -cellsA, -aload]
           exact ⟨i + 1, o ++ [b], ⟨by omega, by simp; omega, by simpa [-cellsA] using h2⟩, by omega, by simp⟩
         · rw [if_pos e2] at h2
           simp [e1, e2, s1, s2, s3, s4, w1, hi, hn, hx, gE hx, ldA, lenA, disA, -cellsA, -aload]
           exact ⟨i + 1, o ++ [b] ++ [x], ⟨by omega, by simp; omega, by simpa [-cellsA] using h2⟩, by omega, by simp⟩
       · have e2 : c ≠ 0 := by omega
         rw [if_neg (by simp [e1]), decide_eq_false e1, if_pos e2] at h2
         simp [e1, e2, s1, s2, w1, hi, hn, hx, gE hx, ldA, lenA, disA, -cellsA, -aload]
         exact ⟨i + 1, o ++ [x], ⟨by omega, by simp; omega, by simpa [-cellsA] using h2⟩, by omega, by simp⟩
     · rw [if_neg (by simp), Bool.true_or] at h2
       by_cases e2 : c = 0
       · rw [if_neg (by simpa [-cellsA] using e2)] at h2
         simp [e2, w1]
         exact ⟨i + 1, o, ⟨by omega, by omega, by simpa [-cellsA] using h2⟩, by omega, by simp⟩
       · rw [if_pos e2] at h2
         simp [e2, s1, s2, w1, hi, hn, hx, gE hx, ldA, lenA, disA, -cellsA, -aload]
         exact ⟨i + 1, o ++ [x], ⟨by omega, by simp; omega, by simpa [-cellsA] using h2⟩, by omega, by simp⟩
   · have : i = n := by omega
     subst this
     rw [List.drop_eq_nil_of_le (by omega)] at h2
     have s1 : o.length + 1 ≤ 140737488355328 := by omega
     have s2 : (o.length + 1) * 136 ≤ 140737488355328 := by omega
     cases d
     · simp [insW] at h2
       simp [hn, s1, s2, ← h2, ldA, lenA, disA, -cellsA, -aload]
     · simp [insW] at h2
       simp [hn, ← h2]
end Go.Proofs.Ytfngaildaoahpaa

namespace Go.Proofs.Ytfngaildaoahpaa
open Go Go.Am
end Go.Proofs.Ytfngaildaoahpaa

namespace Go.Proofs.Ytfngaildaoahpaa
open Go Go.Am
end Go.Proofs.Ytfngaildaoahpaa

namespace Go.Proofs.Ytfngaildaoahpaa
open Go Go.Am
end Go.Proofs.Ytfngaildaoahpaa
