import Derived.Test.YthonenmafbpbkaaFXE6
import Derived.Test.YthonenmafbpbkaaFXE2
import Derived.Test.YthonenmafbpbkaaBmAG
import Derived.Test.YthonenmafbpbkaaFFacts
import Derived.RangeFuncBox
import Derived.RangeFuncLeaves
import Derived.Shelf.Abstract
import Derived.WalkKit
import Derived.OwnWalkIn
import Derived.TacticsInMore
import Derived.LoopNIn
import Derived.LoopIn
set_option linter.unusedSimpArgs false
set_option linter.unusedVariables false
namespace Go.Proofs.Ythonenmafbpbkaa
open Go Go.Am
def prevA (l : List Lsa) : Nat → Option Lsa
 | 0 => none
 | i + 1 => l[i]?
theorem encL_cases (x : Lsa) : sealE x = if chkA x ≠ 0 then chkA x else if x.H.Sum = sumA x then 0 else 13 := by
 unfold sealE
 split
 · rfl
 · split <;> simp_all
set_option maxHeartbeats 8000000 in
set_option maxRecDepth 10000 in
theorem f67 (l : List Lsa) (n : Nat) (hn : l.length = n) (hlen : n < 1099511627776) (ok : ∀ x ∈ l, okA x) : CFun Try.prog 63 [.sl 15 (l.map encA) .sh] [] (.int .i64 (rowsE none l)) [] := by
 refine CFun.intro (tr := []) (fz := []) (n := 44) (rs := [.tmp 2]) Try.func63 rfl (by kernel_rfl) rfl rfl mixed (by kernel_rfl) (by simp) (by simp) ?_
 simp
 refine LoopK.intro (tr := []) mixed (by kernel_rfl) (fun i : Nat => [(0, .sl 15 (l.map encA) .sh), (3, .int .i64 i)]) (fun _ => []) (fun i => i ≤ n ∧ rowsE none l = rowsE (prevA l i) (l.drop i)) (fun i => n - i) 0 ?_ ?_ ?_
 · simp [prevA]
 · simp
 · rintro i ⟨h1, h2⟩
   by_cases hi : i < n
   · obtain ⟨x, hx, hd⟩ := get_drop (l := l) (i := i) (by omega)
     rw [hd] at h2
     have w1 : IntKind.i64.wrap ((i : Int) + 1) = i + 1 := wrap_in (by omega)
     have okx := ok x (List.mem_of_getElem? hx)
     have h33 := fun H => (c14 x okx).up' H rfl rfl
     have hK := fun H => (c26 x.H).up' H rfl rfl
     simp only [rowsE] at h2
     simp [hi, hn, hx, gE hx]
     refine ⟨_, _, .inl (by simpa using h33 _), by simp, ?_⟩
     have hse := encL_cases x
     by_cases e0 : chkA x = 0
     case neg =>
       rw [if_pos e0] at hse
       rw [hse, if_pos e0] at h2
       simp [e0, h2]
     have hl := chkA_len e0
     have h34 := fun H => (c22 x hl.1 hl.2).up' H rfl rfl
     rw [if_neg (by simpa using e0)] at hse
     clear hd
     simp [e0, hi, hn, hx, gE hx]
     refine ⟨_, _, .inl (by simpa using h34 _), by simp, ?_⟩
     by_cases e1 : x.H.Sum = sumA x
     case neg =>
       rw [if_neg e1] at hse
       rw [hse] at h2
       simp at h2
       simp [e1, h2]
     rw [if_pos e1] at hse
     rw [hse] at h2
     simp only [ne_eq, not_true, if_false] at h2
     cases i with
     | zero =>
       have w0 : IntKind.i64.wrap 1 = 1 := by decide
       simp only [prevA] at h2
       simp [e1, w0]
       exact ⟨1, ⟨by omega, by simpa [prevA, hx] using h2⟩, by omega, by simp⟩
     | succ j =>
       obtain ⟨q, hq, _⟩ := get_drop (l := l) (i := j) (by omega)
       simp only [prevA, hq] at h2
       have w2 : IntKind.i64.wrap (j : Int) = j := wrap_in (by omega)
       have h0 : (0 : Int) < ((j + 1 : Nat) : Int) := by omega
       have hjn : j < n := by omega
       have hKq := fun H => (c26 q.H).up' H rfl rfl
       have hC := fun H => (c28 (keyH q.H) (keyH x.H)).up' H rfl rfl
       have hkk : cmpY (keyA q) (keyA x) = cmpY (keyH q.H) (keyH x.H) := rfl
       rw [hkk] at h2
       generalize keyH q.H = kq at hKq hC h2
       generalize keyH x.H = kx at hK hC h2
       simp only [Int.natCast_add, Int.natCast_one] at w1 h0
       have hj0 : (0 : Int) ≤ (j : Int) + 1 := by omega
       simp [e1, w2, h0, hn, hq, gE hq, hjn, hx, gE hx, hi]
       refine ⟨_, _, .inl (by simpa using hKq _), by simp, ?_⟩
       simp [hn, hx, gE hx, hi, hj0]
       refine ⟨_, _, .inl (by simpa using hK _), by simp, ?_⟩
       simp
       refine ⟨_, _, .inl (by simpa using hC _), by simp, ?_⟩
       by_cases ho : 0 ≤ cmpY kq kx
       · simp [ho] at h2
         simp [ho, h2]
       · simp [ho] at h2
         have w3 : IntKind.i64.wrap ((j : Int) + 2) = j + 2 := wrap_in (by omega)
         simp [ho, w1, w3]
         exact ⟨j + 1 + 1, ⟨by omega, by simpa [prevA, hx] using h2⟩, by omega, by simp⟩
   · have e : l.drop i = [] := List.drop_of_length_le (by omega)
     rw [e] at h2
     simp [rowsE] at h2
     simp [hi, hn, h2]
set_option maxHeartbeats 4000000 in
set_option maxRecDepth 10000 in
theorem f24 (l : List Lsa) (n : Nat) (hn : l.length = n) (hlen : n < 1099511627776) (ok : ∀ x ∈ l, okA x) : CFun Try.prog 25 [.sl 15 (l.map encA) .sh] [] (.int .i64 (chkD l)) [] := by
 refine CFun.intro (tr := []) (fz := []) (n := 8) (rs := [.tmp 2]) Try.func25 rfl (by kernel_rfl) rfl rfl mixed (by kernel_rfl) (by simp) (by simp) ?_
 have h := f67 l n hn hlen ok
 unfold chkD
 by_cases h64 : 2000 < n
 · have h64' : (2000 : Int) < n := by omega
   simp [hn, h64, h64']
 · have h64' : ¬ (2000 : Int) < n := by omega
   simp [hn, h64, h64']
   refine ⟨_, _, .inl (by simpa using h), by simp, ?_⟩
   simp
end Go.Proofs.Ythonenmafbpbkaa

namespace Go.Proofs.Ythonenmafbpbkaa
open Go Go.Am
def tyD : Bool × List CTy := (false, [.sl true 136 csA])
def tyK : Bool × List CTy := (false, [.int .u32])
theorem rd_AD {x : AVal} (h : RdA tyA x) : ∃ l : Lsa, x = encA l ∧ okD l := by
 obtain ⟨cs, h1, h2⟩ := h
 have h3 : Rds (csA ++ []) cs := by rw [List.append_nil]; exact h2
 obtain ⟨l, r, rfl, ok, k⟩ := dec_A h3
 obtain rfl := Rds_nil k
 refine ⟨l, ?_, ok⟩
 rw [if_pos (show tyA.1 = true from rfl), List.append_nil] at h1
 exact h1
theorem rd_D {x : AVal} (h : RdA tyD x) : ∃ l : List Lsa, x = .sl 15 (l.map encA) .sh ∧ (∀ a ∈ l, okD a) ∧ l.length * 136 ≤ 140737488351232 := by
 obtain ⟨cs, h1, h2⟩ := h
 obtain ⟨l, r, rfl, k, z⟩ := Rds_sl (enc := fun x : { x : Lsa // okD x } => encA x.1) h2 (fun y cs e h => by
   obtain ⟨a, ha, oka⟩ := rd_AD (x := y) ⟨cs, e, h⟩
   exact ⟨⟨a, oka⟩, ha⟩)
 obtain rfl := Rds_nil k
 simp [tyD] at h1
 refine ⟨l.map (·.1), ?_, fun a ha => ?_, by simpa [reachBytes] using z⟩
 · rw [← h1]
   simp [csA, csH, Function.comp_def]
 · obtain ⟨y, _, rfl⟩ := List.mem_map.1 ha
   exact y.2
theorem rd_k {x : AVal} (h : RdA tyK x) : ∃ n : Int, x = .int .u32 n ∧ inW n := by
 obtain ⟨cs, h1, h⟩ := h
 obtain ⟨a1, r, rfl, h, w1⟩ := Rds_int h
 obtain rfl := Rds_nil h
 simp [tyK] at h1
 exact ⟨a1, h1.symm, wf_u32 w1⟩
end Go.Proofs.Ythonenmafbpbkaa

/- The iterator over an interface's neighbors. -/
namespace Go.Proofs.Ythonenmafbpbkaa
open Go Go.Am Go.RowKit Go.Shelf
attribute [local go_sem] Oper.semAt_some
set_option maxRecDepth 100000 in
set_option maxHeartbeats 4000000 in
theorem iter78 : IterP Try.prog 78 14 15 := by
 intro bb len l J Jx W hl hJ hJs hJx hY h0
 refine (callsIn_wide (n := 1)).1 ?_
 refine callsIn_of_wp Try.func78 rfl trivial ?_ rfl
 simp only [Try.ntmps78, List.size_toArray, List.length_cons, List.length_nil, Nat.reduceAdd, Nat.reduceSub, Array.replicate_succ, Array.replicate_zero, List.push_toArray, List.append_toArray, List.nil_append, List.cons_append]
 obtain ⟨b, p, ad, cap, z1, z2, z3⟩ := hJ 0 W h0
 gi_wp2
 gi_loopw [9] (fun i wr => ∃ k : Nat, k ≤ len ∧ i = .int .i64 k ∧ J k wr) (fun i _ => len - (intOf i).toNat)
 case atStart => exact ⟨0, Nat.zero_le _, rfl, h0⟩
 case round =>
   obtain ⟨k, hk, rfl, hJk⟩ := hrel
   by_cases hlt : k < len
   · obtain ⟨b1, p1, ad1, cap1, y1, y2, y3⟩ := hJ k wr hJk
     obtain ⟨a2, rfl, hsp⟩ := y3 (by omega)
     obtain ⟨ab, ao, asp⟩ := a2
     simp only at hsp
     subst hsp
     obtain ⟨fn, tmps, assign, body, hy, hR⟩ := hY k wr b1 p1 _ cap1 hJk hlt ⟨y1, y2, fun _ => ⟨_, rfl, rfl⟩⟩
     gi_wp2
     trace_state
     refine hR.mono ?_
     rintro e W3 (⟨rfl, hJ3⟩ | ⟨rfl, hJx3⟩)
     · gi_wp2
       go_roundw
       case rel => exact ⟨k + 1, by omega, by simp, hJ3⟩
       case measure => simp [intOf]; omega
     · gi_wp2
       refine bodyPost_ret (results_none rfl _ _ _) rfl ?_
       exact ⟨⟨_, rfl⟩, .inr hJx3⟩
   · obtain rfl : k = len := by omega
     gi_wp2
     go_end0
     exact ⟨⟨_, rfl⟩, .inl hJk⟩
end Go.Proofs.Ythonenmafbpbkaa
