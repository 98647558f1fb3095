/- The exchange of databases: what is pending, what is requested, what is sent again. -/
import Derived.Test.YthonenmafbpbkaaFS3
import Derived.Test.YthonenmafbpbkaaBmAD
import Derived.Test.YthonenmafbpbkaaBmAG
import Derived.Test.YthonenmafbpbkaaFFacts
import Derived.RangeFuncBox
import Derived.RangeFuncLeaves
import Derived.Shelf.Abstract
import Derived.WalkKit
import Derived.OwnWalkIn
import Derived.TacticsInMore
import Derived.LoopNIn
import Derived.LoopIn
import Derived.Lib.SliceRun
import Derived.Test.YthonenmafbpbkaaBmZ
set_option linter.unusedSimpArgs false
set_option linter.unusedVariables false
namespace Go.Proofs.Ythonenmafbpbkaa
open Go Go.Am
theorem ch_row (l : List Hdr) (s1 : l.length * 56 ≤ 140737488355328) : CFun Try.prog 59 [.sl 7 (l.map encH) .sh] [] (.sl 7 (l.map encH) .sh) [] := ch_cl l s1
end Go.Proofs.Ythonenmafbpbkaa

/- Less is known of the variables. -/

/- The iterator over an interface's neighbors. -/
namespace Go.Proofs.Ythonenmafbpbkaa
open Go Go.Am Go.RowKit Go.Shelf
attribute [local go_sem] Oper.semAt_some
set_option maxRecDepth 100000 in
set_option maxHeartbeats 4000000 in
theorem iter78 : IterP Try.prog 78 14 15 := by
 intro bb len l J Jx W hl hJ hJs hJx hY h0
 refine (callsIn_wide (n := 1)).1 ?_
 refine callsIn_of_wp Try.func78 rfl trivial ?_ rfl
 simp only [Try.ntmps78, List.size_toArray, List.length_cons, List.length_nil, Nat.reduceAdd, Nat.reduceSub, Array.replicate_succ, Array.replicate_zero, List.push_toArray, List.append_toArray, List.nil_append, List.cons_append]
 obtain ⟨b, p, ad, cap, z1, z2, z3⟩ := hJ 0 W h0
 gi_wp2
 gi_loopw [9] (fun i wr => ∃ k : Nat, k ≤ len ∧ i = .int .i64 k ∧ J k wr) (fun i _ => len - (intOf i).toNat)
 case atStart => exact ⟨0, Nat.zero_le _, rfl, h0⟩
 case round =>
   obtain ⟨k, hk, rfl, hJk⟩ := hrel
   by_cases hlt : k < len
   · obtain ⟨b1, p1, ad1, cap1, y1, y2, y3⟩ := hJ k wr hJk
     obtain ⟨a2, rfl, hsp⟩ := y3 (by omega)
     obtain ⟨ab, ao, asp⟩ := a2
     simp only at hsp
     subst hsp
     obtain ⟨fn, tmps, assign, body, hy, hR⟩ := hY k wr b1 p1 _ cap1 hJk hlt ⟨y1, y2, fun _ => ⟨_, rfl, rfl⟩⟩
     gi_wp2
     trace_state
     refine hR.mono ?_
     rintro e W3 (⟨rfl, hJ3⟩ | ⟨rfl, hJx3⟩)
     · gi_wp2
       go_roundw
       case rel => exact ⟨k + 1, by omega, by simp, hJ3⟩
       case measure => simp [intOf]; omega
     · gi_wp2
       refine bodyPost_ret (results_none rfl _ _ _) rfl ?_
       exact ⟨⟨_, rfl⟩, .inr hJx3⟩
   · obtain rfl : k = len := by omega
     gi_wp2
     go_end0
     exact ⟨⟨_, rfl⟩, .inl hJk⟩
end Go.Proofs.Ythonenmafbpbkaa

/- slices.Clone of nothing. -/
namespace Go.Proofs.Ythonenmafbpbkaa
open Go Go.Am Go.RowKit Go.Shelf
attribute [local go_sem] Oper.semAt_some
theorem cpost_grown {G : Gh} {w w' : World} {H : List (List AVal)} {x : AVal} {v : Value} (hs : SR G H w) (hc : ∀ b i, G.K b ≠ some (.tmp i)) (hg : w.grownBy w' none) (hx : Rep H.length G.r G.F x v) (ho : x.isOwn = false) : CPost G w H x H (.returned v) w' :=
 ⟨v, G, rfl, (Ext.refl _ _ G w).grown hg (Nat.le_refl _) (fun r e => by cases e), hs.grown hg (fun r e => by cases e), hx, OwnAt.of_not ho, hc, Nat.le_refl _⟩
set_option maxRecDepth 100000 in
set_option maxHeartbeats 4000000 in
theorem cl_e (md : Am.Mode) : CFun Try.prog 59 [.sl 0 [] md] [] (.sl 0 [] .full) [] := by
 refine ⟨⟨_, Try.func59, rfl, rfl⟩, fun G w cargs hs hc hr hz hrep => ?_⟩
 obtain ⟨v, rfl⟩ : ∃ v, cargs = #[v] := by
   have hz : cargs.size = 1 := hz
   refine ⟨cargs[0], ?_⟩
   apply Array.ext
   · simpa using hz
   · intro i h1 h2
     obtain rfl : i = 0 := by simp at h2; omega
     rfl
 have hv := (hrep 0 _ v rfl rfl).toTree rfl
 obtain ⟨base, cap, L, rfl, r2, r3, r4, r5, r6, r7, r8, r9, r10⟩ := hv.slcells
 refine (callsIn_wide (n := 1)).1 ?_
 refine callsIn_of_wp Try.func59 rfl trivial ?_ rfl
 simp only [Try.ntmps59, List.size_toArray, List.length_cons, List.length_nil, Nat.reduceAdd, Nat.reduceSub, Array.replicate_succ, Array.replicate_zero, List.push_toArray, List.append_toArray, List.nil_append, List.cons_append]
 have hq := fun (a : Option Addr) (n c : Nat) => Lib.run_eql_slice_nil (P := Try.prog) w 36 26 a n c 0 0 (by kernel_rfl)
 cases base with
 | none =>
   obtain ⟨_, rfl⟩ := r4 rfl
   gi_wp2
   exact ⟨rfl, _, results_tmp rfl _ _ _, cpost_grown hs hc ⟨rfl, rfl, rfl, Nat.le_refl _, fun _ _ _ => rfl⟩ (.tree _ _ (.slnil 0 .full)) rfl⟩
 | some ad =>
   gi_wp2
   refine ⟨rfl, _, results_tmp rfl _ _ _, cpost_grown hs hc ⟨rfl, rfl, rfl, by simp, fun k hk _ => alloc_old _ _ hk⟩ ?_ rfl⟩
   exact .tree _ _ (.sl 0 [] .full _ 0 0 (fun _ => undef) rfl (Nat.le_refl _) (by simp) (by simp) (by simp) (by simp) (by simp) (by simp) (by simp))
end Go.Proofs.Ythonenmafbpbkaa

/- The examples of the document, by a run. -/
namespace Go.Proofs.Ythonenmafbpbkaa
open Go Go.Am
def fIts : Its := fun f => if f = 78 then some (14, 15) else none
theorem fIts_ok : ItsOk Try.prog fIts := by
 intro gf c k h
 unfold fIts at h
 split at h
 case isFalse => cases h
 rename_i hf
 subst hf
 injection h with h
 injection h with e1 e2
 subst e1 e2
 exact ⟨iter78, _, Try.func78, rfl, rfl⟩
def fTb : CallF := fun f args H => if f = 59 then (match args with
 | [.sl 0 [] .full] => some (.sl 0 [] .full, H)
 | [.sl 0 [] .sh] => some (.sl 0 [] .full, H)
 | _ => none) else none
theorem fTb_ok : CallOk Try.prog fTb := by
 intro f args H x H' h
 unfold fTb at h
 split at h
 case isFalse => cases h
 rename_i hf
 subst hf
 split at h
 · injection h with h; injection h with e1 e2; subst e1 e2
   exact (cl_e .full).up' H rfl rfl
 · injection h with h; injection h with e1 e2; subst e1 e2
   exact (cl_e .sh).up' H rfl rfl
 · cases h
def fCfg : Cfg := [(37, [100009], []), (76, [100007], []), (31, [18], []), (11, [], [(504014, 5, true), (504029, 7, true), (12, 4, true)])] ++ ([10, 36, 38, 39, 40, 41, 42, 43, 44, 49, 50, 54, 55, 56, 61, 77, 79, 80, 81, 82, 83, 85, 89, 90, 106, 107, 109, 119, 120].map fun i => (i, [], []))
theorem f10 : CFun Try.prog 10 [] [] (.bool true) [] := CFun.run mixed fIts_ok fCfg fTb fTb_ok 300 (by kernel_rfl) (by kernel_rfl)
end Go.Proofs.Ythonenmafbpbkaa

/- Acknowledgements: what Ack answers; the functions that it calls. -/
namespace Go.Proofs.Ythonenmafbpbkaa
open Go Go.Am
theorem cmpH_neg (a b : Hdr) (ha : inI a.Age) (hb : inI b.Age) : cmpH a b = - cmpH b a := by
 have g1 := ageGap_abs a b ha hb
 have g2 := ageGap_abs b a hb ha
 have hs := cmpI_neg a.Seq b.Seq
 have hm := cmpI_neg a.Sum b.Sum
 have hg := cmpI_neg a.Age b.Age
 simp only [cmpH, orL_two, g1, g2, hs, hm, hg]
 generalize cmpI a.Seq b.Seq = s
 generalize cmpI a.Sum b.Sum = m
 generalize cmpI a.Age b.Age = g
 by_cases c1 : s = 0
 · subst c1
   by_cases c2 : m = 0
   · subst c2
     simp
     by_cases c3 : a.Age = 3600
     · by_cases c4 : b.Age = 3600
       · simp [c3, c4]
       · simp [c3, c4]
     · by_cases c4 : b.Age = 3600
       · simp [c3, c4]
       · simp [c3, c4]
         by_cases c5 : a.Age < b.Age
         · have c6 : ¬ b.Age < a.Age := by omega
           simp [c5, c6]
           split <;> simp
         · by_cases c6 : b.Age < a.Age
           · simp [c5, c6]
             split <;> simp
           · have c7 : a.Age = b.Age := by omega
             simp [c7]
   · simp [c2]
 · simp [c1]
theorem cmpH_flip (a b : Hdr) (ha : inI a.Age) (hb : inI b.Age) : cmpH a b = 0 ↔ cmpH b a = 0 := by
 have := cmpH_neg a b ha hb
 omega
def goneH (l : List Hdr) (u : Hdr) : Bool := l.any fun h => decide (keyH u = keyH h) && decide (cmpH u h = 0)
def ackN (n : Nbr) (l : List Hdr) : Nbr :=
 { n with Una := n.Una.filter (fun u => !goneH l u), Rsd := if (n.Una.filter (fun u => !goneH l u)) = [] ∧ waitsN n = false then 0 else n.Rsd }
set_option maxHeartbeats 1000000 in
set_option maxRecDepth 10000 in
theorem a56 (n : Nbr) : CFun Try.prog 56 [encN n] [] (.bool (waitsN n)) [] := by
 refine CFun.intro (tr := []) (fz := []) (n := 20) (rs := [.tmp 2]) Try.func56 rfl (by kernel_rfl) rfl rfl mixed (by kernel_rfl) (by simp) (by simp) ?_
 unfold waitsN
 by_cases h3 : n.State = 3
 · simp [h3]
 by_cases h4 : n.State = 4
 · cases hm : n.Master <;> simp [h4, hm]
 by_cases h5 : n.State = 5
 · simp [h5]
 · simp [h3, h4, h5]
set_option maxHeartbeats 2000000 in
set_option maxRecDepth 10000 in
theorem a49 (n : Nbr) (h1 : n.Lst.length * 56 ≤ 140737488351232) (h2 : n.Sent.length * 56 ≤ 140737488351232) (h3 : n.Req.length * 56 ≤ 140737488351232) (h4 : n.Una.length * 56 ≤ 140737488351232) : CFun Try.prog 49 [encN n] [] (encN n) [] := by
 refine CFun.intro (tr := []) (fz := []) (n := 20) (rs := [.cell 2 38]) Try.func49 rfl (by kernel_rfl) rfl rfl mixed (by kernel_rfl) (by simp) (by simp) ?_
 have k1 := fun H => (ch_row n.Lst (by omega)).up' H rfl rfl
 have k2 := fun H => (ch_row n.Sent (by omega)).up' H rfl rfl
 have k3 := fun H => (ch_row n.Req (by omega)).up' H rfl rfl
 have k4 := fun H => (ch_row n.Una (by omega)).up' H rfl rfl
 simp
 refine ⟨_, _, .inl (k1 _), by simp, ?_⟩
 simp
 refine ⟨_, _, .inl (k2 _), by simp, ?_⟩
 simp
 refine ⟨_, _, .inl (k3 _), by simp, ?_⟩
 simp
 refine ⟨_, _, .inl (k4 _), by simp, ?_⟩
 simp
set_option maxHeartbeats 2000000 in
set_option maxRecDepth 10000 in
theorem a49r (n : Nbr) (ok : okN n) (hne : n.Una ≠ []) : CFun Try.prog 49 [encN n] [] (.mix [.int .u32 n.Router, .int .u32 n.Addr, .int .i64 n.Pri, .int .u32 n.DR, .int .u32 n.BDR, .int .i64 n.State, .int .i64 n.Til, .bool n.Master, .int .i64 n.Seq,
   .sl 7 (n.Lst.map encH) .sh, .sl 7 (n.Sent.map encH) .sh, .bool n.More, .sl 7 (n.Req.map encH) .sh, .osl 2 0 n.Una.length none 7, .int .i64 n.Rsd]) [[], [], rowC ceH n.Una] := by
 refine CFun.intro (tr := []) (fz := []) (n := 20) (rs := [.cell 2 38]) Try.func49 rfl (by kernel_rfl) rfl rfl mixed (by kernel_rfl) (by simp) (by simp) ?_
 have hl1 := ok.lst
 have hl2 := ok.sent
 have hl3 := ok.req
 have hl4 := ok.una
 have k1 := fun H => (ch_row n.Lst (by omega)).up' H rfl rfl
 have k2 := fun H => (ch_row n.Sent (by omega)).up' H rfl rfl
 have k3 := fun H => (ch_row n.Req (by omega)).up' H rfl rfl
 have k4 : ∀ H, CFun Try.prog 59 [.sl 7 (n.Una.map encH) .sh] H (.osl H.length 0 n.Una.length none 7) (H ++ [rowC ceH n.Una]) := fun H => (ch_clr n.Una hne (by omega)).upNew H (eHh.rowNoid n.Una) rfl rfl
 have hle := fun k => eHh.rowLe k n.Una
 simp
 refine ⟨_, _, .inl (k1 _), by simp, ?_⟩
 simp
 refine ⟨_, _, .inl (k2 _), by simp, ?_⟩
 simp
 refine ⟨_, _, .inl (k3 _), by simp, ?_⟩
 simp
 refine ⟨_, _, .inl (k4 _), by simp, ?_⟩
 simp [hle]
end Go.Proofs.Ythonenmafbpbkaa

/- Acknowledgements: Ack, by the program. -/
namespace Go.Proofs.Ythonenmafbpbkaa
open Go Go.Am
theorem goneH_idx (l : List Hdr) (u : Hdr) : goneH l u = decide (0 ≤ idxL (fun h => decide (keyH u = keyH h) && decide (cmpH u h = 0)) l 0) := idxL_any _ _ _
set_option maxHeartbeats 2000000 in
set_option maxRecDepth 10000 in
theorem a54 (u h : Hdr) : CFun Try.prog 54 [encH u, encH h] [] (.bool (decide (keyH u = keyH h))) [] := by
 refine CFun.intro (tr := []) (fz := []) (n := 10) (rs := [.tmp 4]) Try.func54 rfl (by kernel_rfl) rfl rfl mixed (by kernel_rfl) (by simp) (by simp) ?_
 have k1 := fun H => (c25 u).up' H rfl rfl
 have k2 := fun H => (c25 h).up' H rfl rfl
 have hk := keyY_iff (keyH u) (keyH h)
 generalize keyH u = kx at *
 generalize keyH h = kh at *
 simp
 refine ⟨_, _, .inl (by simpa using k1 _), by simp, ?_⟩
 simp
 refine ⟨_, _, .inl (by simpa using k2 _), by simp, ?_⟩
 by_cases e : kx = kh
 · subst e
   simp
 · rw [decide_eq_false e] at hk
   simp only [Bool.and_eq_false_iff, beq_eq_false_iff_ne] at hk
   have hk2 : ¬ (kx.Ty = kh.Ty ∧ kx.ID = kh.ID ∧ kx.Len = kh.Len ∧ kx.Router = kh.Router) := by
     rintro ⟨r1, r2, r3, r4⟩
     cases kx; cases kh; simp_all
   simp [hk2, e]
   exact fun a b c d => hk2 ⟨a, b, c, d⟩
set_option maxHeartbeats 2000000 in
set_option maxRecDepth 10000 in
theorem a53 (u h : Hdr) : CFun Try.prog 53 [encH h, .ptr 0 0] [cellsH u] (.bool (decide (keyH u = keyH h) && decide (cmpH u h = 0))) [cellsH u] := by
 refine CFun.intro (tr := []) (fz := []) (n := 13) (rs := [.tmp 3]) Try.func53 rfl (by kernel_rfl) rfl rfl mixed (by kernel_rfl) (by simp) (by simp) ?_
 have k1 := fun H => (a54 u h).up' H rfl rfl
 have k2 := fun H => (c16 u h).up' H rfl rfl
 generalize cmpH u h = c at *
 by_cases e : keyH u = keyH h
 · simp
   refine ⟨_, _, .inl (by simpa using k1 _), by simp, ?_⟩
   simp [e]
   refine ⟨_, _, .inl (by simpa using k2 _), by simp, ?_⟩
   have hc0 : (c == 0) = decide (c = 0) := rfl
   simp [hc0]
 · simp
   refine ⟨_, _, .inl (by simpa using k1 _), by simp, ?_⟩
   simp [e]
set_option maxHeartbeats 2000000 in
set_option maxRecDepth 10000 in
theorem a52 (l : List Hdr) (hl : l.length < 8796093022208) (u : Hdr) : CFun Try.prog 52 [.sl 7 (l.map encH) .sh, .fn 53 [] [.ptr 0 0]] [cellsH u] (.bool (goneH l u)) [cellsH u] := by
 refine CFun.intro (tr := []) (fz := []) (n := 9) (rs := [.tmp 4]) Try.func52 rfl (by kernel_rfl) rfl rfl mixed (by kernel_rfl) (by simp) (by simp) ?_
 have h := ih_ix l _ rfl hl (fun h => decide (keyH u = keyH h) && decide (cmpH u h = 0)) 53 [] [.ptr 0 0] [cellsH u] (by simp [low, low0]) (by simp) (fun x _ => a53 u x)
 rw [goneH_idx]
 generalize idxL (fun h => decide (keyH u = keyH h) && decide (cmpH u h = 0)) l 0 = q at h
 simp
 refine ⟨_, _, .inl h, by simp, ?_⟩
 simp
set_option maxHeartbeats 2000000 in
set_option maxRecDepth 10000 in
theorem a51 (l : List Hdr) (hl : l.length < 8796093022208) (u : Hdr) : CFun Try.prog 51 [encH u, .iptr [.sl 7 (l.map encH) .sh] 0] [] (.bool (goneH l u)) [] := by
 refine CFun.intro (tr := []) (fz := []) (n := 7) (rs := [.tmp 3]) Try.func51 rfl (by kernel_rfl) rfl rfl mixed (by kernel_rfl) (by simp) (by simp) ?_
 have h := a52 l hl u
 simp
 refine ⟨_, _, .inl (by simpa using h), by simp, ?_⟩
 simp
theorem dh_delN (l : List Hdr) (n : Nat) (hn : l.length = n) (h0 : 0 < n) (hlen : n < 8796093022208) (p : Hdr → Bool) (f : FuncId) (fs cs : List AVal) (hfs : fs.all noid0 = true) (hcs : cs.all noid0 = true)
   (hp : ∀ x, CFun Try.prog f (fs ++ [.agg (ceH x)] ++ cs) [] (.bool (p x)) []) : CFun Try.prog 50 [.osl 0 0 n none 7, .fn f fs cs] [rowC ceH l] (.osl 0 0 (l.filter fun x => !p x).length none 7) [delRow ceH 7 p l] := by
 have hfl := (eHh).rowLen l
 rw [hn] at hfl
 have hne : rowC ceH l ≠ [] := by
   intro e
   rw [e] at hfl
   simp at hfl
   omega
 refine CFun.reveal (id := 0) (off := 0) (len := n) (k := 7) (cs := rowC ceH l) 0 rfl rfl hne (fun C hC => ?_) (fun C hC h0 => by omega)
 exact CFun.forget (c := some C) (CFun.less (dh_del l n C hn hC hlen p f fs cs hfs hcs hp) rfl ⟨LeCells_more _ (eHh.rowLe _ l), trivial⟩)
def cellsNu (n : Nbr) (x : AVal) : List AVal := [.int .u32 n.Router, .int .u32 n.Addr, .int .i64 n.Pri, .int .u32 n.DR, .int .u32 n.BDR, .int .i64 n.State, .int .i64 n.Til, .bool n.Master, .int .i64 n.Seq,
 .sl 7 (n.Lst.map encH) .sh, .sl 7 (n.Sent.map encH) .sh, .bool n.More, .sl 7 (n.Req.map encH) .sh, x, .int .i64 n.Rsd]
def zN : List AVal := [.int .u32 0, .int .u32 0, .int .i64 0, .int .u32 0, .int .u32 0, .int .i64 0, .int .i64 0, .bool false, .int .i64 0, .sl 0 [] .full, .sl 0 [] .full, .bool false, .sl 0 [] .full, .sl 0 [] .full, .int .i64 0]
set_option maxHeartbeats 8000000 in
set_option maxRecDepth 10000 in
theorem a16r (n : Nbr) (ok : okN n) (hne : n.Una ≠ []) (l : List Hdr) (hl : l.length < 8796093022208) : CFun Try.prog 16 [encN n, .sl 7 (l.map encH) .sh] [] (encN (ackN n l)) [] := by
 refine CFun.intro (tr := [3000003000002, 4500013000011]) (fz := []) (n := 23) (rs := [.cell 4 38]) Try.func16 rfl (by kernel_rfl) rfl rfl mixed (by kernel_rfl) (by simp) (by simp) ?_
 have hlen4 := ok.una
 have h0 : 0 < n.Una.length := List.length_pos_iff.2 hne
 have h49 := (a49r n ok hne).upAll [cellsN n, [.sl 7 (l.map encH) .sh], zN] (by simp [eHh.rowNoid, -List.all_eq_true]) rfl rfl
 have h50 := (dh_delN n.Una _ rfl h0 (by omega) (goneH l) 51 [] [.iptr [.sl 7 (l.map encH) .sh] 0] rfl rfl (fun x => a51 l hl x)).at (H := [cellsNu n (.osl 5 0 n.Una.length none 7), [], zN, [], [], rowC ceH n.Una]) (id := 5) rfl (eHh.rowNoid n.Una) (eHh.roomNoid _ _) (by simp [low, low0]) rfl
 have hfl := List.length_filter_le (fun x => !goneH l x) n.Una
 have hdl : (delRow ceH 7 (goneH l) n.Una).length = n.Una.length * 7 := by
   simp only [delRow, List.length_append, eHh.rowLen, List.length_replicate]
   omega
 have hdt : (delRow ceH 7 (goneH l) n.Una).take ((n.Una.filter fun x => !goneH l x).length * 7) = rowC ceH (n.Una.filter fun x => !goneH l x) := by
   rw [delRow, List.take_append_of_le_length (by rw [eHh.rowLen]; omega), List.take_of_length_le (by rw [eHh.rowLen]; omega)]
 unfold ackN
 generalize (n.Una.filter fun x => !goneH l x) = W at *
 generalize delRow ceH 7 (goneH l) n.Una = D at *
 have h56 := fun (x : Nbr) H => (a56 x).up' H rfl rfl
 have hnil : W = [] ↔ W.length = 0 := List.length_eq_zero_iff.symm
 have hch := eHh.chunk W _ rfl
 have htr := eHh.rowTree W
 have hL2 := eHh.rowLen W
 obtain ⟨len, hlen⟩ : ∃ len, n.Una.length = len := ⟨_, rfl⟩
 rw [hlen] at h0 hdl hfl h49 h50
 have hpos : 0 < len * 7 := by omega
 simp
 refine ⟨_, _, .inl (by simpa [ren, ren0, ren00, grow, zN, cellsNu] using h49), by simp, ?_⟩
 simp
 refine ⟨_, _, .inl (by simpa [ren, ren0, zN, cellsNu] using h50), by simp, ?_⟩
 have k56 := h56 { n with Una := W }
 have hw : waitsN { n with Una := W } = waitsN n := rfl
 rw [hw] at k56
 by_cases c1 : W.length = 0
 case neg =>
   have c1' : ¬ W = [] := fun e => c1 (hnil.1 e)
   simp [c1, c1', hdl, hdt, hL2, hch, htr, hpos, -List.all_eq_true]
   exact fun _ _ => rfl
 · have c1' : W = [] := hnil.2 c1
   subst c1'
   generalize waitsN n = b at *
   have hc0 : chunk true ([] : List AVal) 0 7 0 = [] := rfl
   simp [hc0, hdl, hdt, hL2, hch, htr, hpos, -List.all_eq_true]
   refine ⟨_, _, .inl (by simpa using k56 _), by simp, ?_⟩
   cases b <;> simp
set_option maxHeartbeats 2000000 in
set_option maxRecDepth 10000 in
theorem a49z (n : Nbr) (ok : okN n) (hz : n.Una = []) : CFun Try.prog 49 [encN n] [] (.agg (cellsNu n (.sl 7 [] .full))) [] := by
 refine CFun.intro (tr := []) (fz := []) (n := 20) (rs := [.cell 2 38]) Try.func49 rfl (by kernel_rfl) rfl rfl mixed (by kernel_rfl) (by simp) (by simp) ?_
 have hl1 := ok.lst
 have hl2 := ok.sent
 have hl3 := ok.req
 have k1 := fun H => (ch_row n.Lst (by omega)).up' H rfl rfl
 have k2 := fun H => (ch_row n.Sent (by omega)).up' H rfl rfl
 have k3 := fun H => (ch_row n.Req (by omega)).up' H rfl rfl
 have k4 := fun H => ch_cl0.up' H rfl rfl
 unfold cellsNu
 simp [hz]
 refine ⟨_, _, .inl (k1 _), by simp, ?_⟩
 simp
 refine ⟨_, _, .inl (k2 _), by simp, ?_⟩
 simp
 refine ⟨_, _, .inl (k3 _), by simp, ?_⟩
 simp
 refine ⟨_, _, .inl (k4 _), by simp, ?_⟩
 simp
set_option maxHeartbeats 8000000 in
set_option maxRecDepth 10000 in
theorem a16z (n : Nbr) (ok : okN n) (hz : n.Una = []) (l : List Hdr) (hl : l.length < 8796093022208) : CFun Try.prog 16 [encN n, .sl 7 (l.map encH) .sh] [] (encN (ackN n l)) [] := by
 refine CFun.intro (tr := [3000003000002]) (fz := []) (n := 23) (rs := [.cell 4 38]) Try.func16 rfl (by kernel_rfl) rfl rfl mixed (by kernel_rfl) (by simp) (by simp) ?_
 have h49 := (a49z n ok hz).up' [cellsN n, [.sl 7 (l.map encH) .sh], zN] rfl rfl
 have h50 := (dh_del0 51 [] [.iptr [.sl 7 (l.map encH) .sh] 0] rfl rfl (goneH l) (fun x => a51 l hl x)).up' [cellsNu n (.sl 7 [] .full), [], zN] rfl rfl
 have k56 := fun H => (a56 n).up' H rfl rfl
 have hW : (n.Una.filter fun u => !goneH l u) = [] := by rw [hz]; rfl
 unfold ackN
 rw [hW]
 generalize waitsN n = b at *
 simp
 refine ⟨_, _, .inl (by simpa [zN] using h49), by simp, ?_⟩
 simp [cellsNu]
 refine ⟨_, _, .inl (by simpa [zN, cellsNu] using h50), by simp, ?_⟩
 simp
 refine ⟨_, _, .inl ((k56 _).wk _ (by simp [noid, noid0]) (by simp [hz])), by simp, ?_⟩
 cases b <;> simp [hz]
theorem a16 (n : Nbr) (ok : okN n) (l : List Hdr) (hl : l.length < 8796093022208) : CFun Try.prog 16 [encN n, .sl 7 (l.map encH) .sh] [] (encN (ackN n l)) [] := by
 by_cases hz : n.Una = []
 · exact a16z n ok hz l hl
 · exact a16r n ok hz l hl
end Go.Proofs.Ythonenmafbpbkaa
