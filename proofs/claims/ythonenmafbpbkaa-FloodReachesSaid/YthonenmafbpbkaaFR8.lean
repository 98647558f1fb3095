/- Flooding through a net: what is linked is what is reached. No program. -/
import Derived.Test.YthonenmafbpbkaaFR7
import Derived.Test.YthonenmafbpbkaaFXE9
import Derived.Test.YthonenmafbpbkaaFXS3
import Derived.Test.YthonenmafbpbkaaFA2
import Derived.Test.YthonenmafbpbkaaFXE14
set_option linter.unusedSimpArgs false
set_option linter.unusedVariables false
namespace Go.Proofs.Ythonenmafbpbkaa
open Go Go.Am
def leB (bs cs : List Bool) : Prop := bs.length = cs.length ∧ ∀ i : Nat, bs[i]? = some true → cs[i]? = some true
theorem leB.refl (bs : List Bool) : leB bs bs := ⟨rfl, fun _ h => h⟩
theorem leB.trans {a b c : List Bool} (h : leB a b) (k : leB b c) : leB a c := ⟨h.1.trans k.1, fun i x => k.2 i (h.2 i x)⟩
theorem relaxB_le (l : List Edg) (bs : List Bool) (e : Edg) : leB bs (relaxB l bs e) := by
 refine ⟨(relaxB_len l bs e).symm, fun i h => ?_⟩
 unfold relaxB
 split
 · rw [List.getElem?_set]
   split
   · rw [if_pos]
     rename_i q
     rw [q]
     exact (List.getElem?_eq_some_iff.1 h).1
   · exact h
 · exact h
theorem foldB_le (l : List Edg) : ∀ (es : List Edg) (bs : List Bool), leB bs (es.foldl (relaxB l) bs)
 | [], bs => leB.refl bs
 | e :: es, bs => (relaxB_le l bs e).trans (foldB_le l es _)
theorem itB_le (l : List Edg) : ∀ (k : Nat) (bs : List Bool), leB bs (itB l k bs)
 | 0, bs => leB.refl bs
 | k + 1, bs => (foldB_le l l bs).trans (itB_le l k _)
def cntB (bs : List Bool) : Nat := (bs.filter id).length
theorem cntB_le (bs : List Bool) : cntB bs ≤ bs.length := List.length_filter_le _ _
theorem cntB_lt : ∀ {bs cs : List Bool}, leB bs cs → cntB bs ≤ cntB cs ∧ (bs ≠ cs → cntB bs < cntB cs)
 | [], [], _ => ⟨Nat.le_refl _, fun h => absurd rfl h⟩
 | [], _ :: _, h => by simp [leB] at h
 | _ :: _, [], h => by simp [leB] at h
 | b :: bs, c :: cs, h => by
   have h1 : leB bs cs := ⟨by simpa using h.1, fun i hi => by simpa using h.2 (i + 1) (by simpa using hi)⟩
   have h0 := h.2 0
   obtain ⟨i1, i2⟩ := cntB_lt h1
   unfold cntB at i1 i2 ⊢
   cases b <;> cases c
   · simp only [List.filter_cons, id, Bool.false_eq_true, if_false]
     exact ⟨i1, fun q => i2 fun e => q (by rw [e])⟩
   · simp only [List.filter_cons, id, Bool.false_eq_true, if_false, if_true, List.length_cons]
     exact ⟨by omega, fun _ => by omega⟩
   · simp at h0
   · simp only [List.filter_cons, id, if_true, List.length_cons]
     exact ⟨by omega, fun q => by have := i2 fun e => q (by rw [e]); omega⟩
theorem itB_fix {l : List Edg} {bs : List Bool} (h : l.foldl (relaxB l) bs = bs) : ∀ k, itB l k bs = bs
 | 0 => rfl
 | k + 1 => by
   simp only [itB]
   rw [h]
   exact itB_fix h k
theorem itB_stable (l : List Edg) : ∀ (k : Nat) (bs : List Bool), bs.length + 1 ≤ cntB bs + k → l.foldl (relaxB l) (itB l k bs) = itB l k bs
 | 0, bs, h => by have := cntB_le bs; omega
 | k + 1, bs, h => by
   by_cases hb : l.foldl (relaxB l) bs = bs
   · rw [itB_fix hb]; exact hb
   · simp only [itB]
     have h1 := (cntB_lt (foldB_le l l bs)).2 fun e => hb e.symm
     refine itB_stable l k _ ?_
     rw [foldB_len]
     omega
theorem fold_closed (l : List Edg) (bs : List Bool) : ∀ (es : List Edg) (cs : List Bool), leB bs cs → leB (es.foldl (relaxB l) cs) bs → ∀ e ∈ es, lnkB l e = true → bs[e.From.toNat]? = some true → e.To.toNat < bs.length → bs[e.To.toNat]? = some true
 | [], _, _, _, e, he, _, _, _ => by cases he
 | x :: es, cs, h1, h2, e, he, hl, hf, ht => by
   rw [List.foldl_cons] at h2
   rcases List.mem_cons.1 he with rfl | he
   · have hc := h1.2 _ hf
     have hr : relaxB l cs e = cs.set e.To.toNat true := by
       unfold relaxB
       rw [if_pos ⟨hl, hc⟩]
     have h3 : (relaxB l cs e)[e.To.toNat]? = some true := by
       rw [hr, List.getElem?_set_self (by rw [← h1.1]; exact ht)]
     exact h2.2 _ ((foldB_le l es _).2 _ h3)
   · exact fold_closed l bs es _ (h1.trans (relaxB_le l cs x)) h2 e he hl hf ht
theorem relaxB_rch {l : List Edg} {N st : Nat} (h : ∀ e ∈ l, okE N e) {bs : List Bool} (hb : ∀ i : Nat, bs[i]? = some true → Rch (adjT l l) st i) {e : Edg} (he : e ∈ l) : ∀ i : Nat, (relaxB l bs e)[i]? = some true → Rch (adjT l l) st i := by
 intro i hi
 unfold relaxB at hi
 split at hi
 · rename_i hc
   rw [List.getElem?_set] at hi
   split at hi
   · rename_i q
     subst q
     obtain ⟨o1, _, o3, _⟩ := h e he
     exact .step (hb _ hc.2) ((adjT_mem h).2 ⟨e, he, by omega, by omega, hc.1⟩)
   · exact hb i hi
 · exact hb i hi
theorem foldB_rch {l : List Edg} {N st : Nat} (h : ∀ e ∈ l, okE N e) : ∀ {es : List Edg} {bs : List Bool}, (∀ e ∈ es, e ∈ l) → (∀ i : Nat, bs[i]? = some true → Rch (adjT l l) st i) → ∀ i : Nat, (es.foldl (relaxB l) bs)[i]? = some true → Rch (adjT l l) st i
 | [], _, _, hb => hb
 | e :: es, bs, hs, hb => by
   rw [List.foldl_cons]
   exact foldB_rch h (fun x hx => hs x (List.mem_cons_of_mem _ hx)) (relaxB_rch h hb (hs e (by simp)))
theorem itB_rch {l : List Edg} {N st : Nat} (h : ∀ e ∈ l, okE N e) : ∀ {k : Nat} {bs : List Bool}, (∀ i : Nat, bs[i]? = some true → Rch (adjT l l) st i) → ∀ i : Nat, (itB l k bs)[i]? = some true → Rch (adjT l l) st i
 | 0, _, hb => hb
 | k + 1, bs, hb => by
   simp only [itB]
   exact itB_rch h (k := k) (foldB_rch h (fun _ x => x) hb)
theorem itB_len (l : List Edg) (k : Nat) (bs : List Bool) : (itB l k bs).length = bs.length := (itB_le l k bs).1.symm
theorem itB_all {l : List Edg} {N st : Nat} (h : ∀ e ∈ l, okE N e) (hst : st < N) (i : Nat) (hi : i < N) : (itB l N (startB N st))[i]? = some true ↔ Rch (adjT l l) st i := by
 have hl0 : (startB N st).length = N := by simp [startB]
 have hs0 : (startB N st)[st]? = some true := by
   unfold startB
   rw [List.getElem?_set_self (by simpa using hst)]
 constructor
 · refine itB_rch h (fun j hj => ?_) i
   unfold startB at hj
   rw [List.getElem?_set] at hj
   split at hj
   · rename_i q
     subst q
     exact .base
   · rw [List.getElem?_replicate] at hj
     split at hj <;> simp at hj
 · intro hr
   have hc : 1 ≤ cntB (startB N st) := by
     unfold cntB
     exact List.length_pos_iff.2 (List.ne_nil_of_mem (List.mem_filter.2 ⟨List.mem_of_getElem? hs0, rfl⟩))
   have hfix := itB_stable l N (startB N st) (by omega)
   have hle := itB_le l N (startB N st)
   have hlen := itB_len l N (startB N st)
   generalize itB l N (startB N st) = Z at *
   clear hi
   induction hr with
   | base => exact hle.2 _ hs0
   | step _ hb ih =>
     obtain ⟨e, e1, e2, e3, e4⟩ := (adjT_mem h).1 hb
     obtain ⟨_, _, o3, o4⟩ := h e e1
     have := fold_closed l Z l Z (leB.refl Z) (by rw [hfix]; exact leB.refl Z) e e1 e4 (by rw [e2]; simpa using ih) (by omega)
     rw [e3] at this
     simpa using this
end Go.Proofs.Ythonenmafbpbkaa

/- What is decided of an instance; the law FloodDecides. -/
namespace Go.Proofs.Ythonenmafbpbkaa
open Go Go.Am
def decN (db : List Lsa) (l : Lsa) (self : Int) : Bool × Bool × Bool :=
 (decide (cmpD db l.H = 1) && ((getD_ db (keyH l.H)).2 || decide (l.H.Age ≠ 3600)), decide (cmpD db l.H = -1), (decide (cmpD db l.H = 1) && ((getD_ db (keyH l.H)).2 || decide (l.H.Age ≠ 3600))) && decide (l.H.Router = self))
@[simp] def encD3 (q : Bool × Bool × Bool) : AVal := .tup [.bool q.1, .bool q.2.1, .bool q.2.2]
set_option maxHeartbeats 4000000 in
set_option maxRecDepth 10000 in
theorem d26 (db : List Lsa) (n : Nat) (hn : db.length = n) (hlen : n < 1099511627776) (ok : ∀ x ∈ db, okL x) (l : Lsa) (self : Int) : CFun Try.prog 26 [.sl 15 (db.map encA) .sh, encA l, .int .u32 self] [] (encD3 (decN db l self)) [] := by
 refine CFun.intro (tr := []) (fz := []) (n := 46) (rs := [.tmp 6, .tmp 7, .tmp 8]) Try.func26 rfl (by kernel_rfl) rfl rfl mixed (by kernel_rfl) (by simp) (by simp) ?_
 have k1 := fun H => (f36 db n hn hlen ok l.H).up' H rfl rfl
 have k2 := fun H => (c25 l.H).up' H rfl rfl
 have k3 := fun H => (f37 db n hn hlen ok (keyH l.H)).up' H rfl (by simp [noid, noid0])
 have hb : (l.H.Router == self) = decide (l.H.Router = self) := rfl
 unfold decN
 generalize keyH l.H = q at *
 generalize cmpD db l.H = c at *
 have hc1 : (c == -1) = decide (c = -1) := rfl
 generalize getD_ db q = g at *
 obtain ⟨a, b⟩ := g
 simp
 refine ⟨_, _, .inl (by simpa using k1 _), by simp, ?_⟩
 simp
 refine ⟨_, _, .inl (by simpa using k2 _), by simp, ?_⟩
 simp
 refine ⟨_, _, .inl (by simpa using k3 _), by simp, ?_⟩
 by_cases h1 : c = 1
 · subst h1
   cases b with
   | true => simp [hb]
   | false =>
     by_cases h2 : l.H.Age = 3600
     · simp [h2, hb]
     · simp [h2, hb]
 · simp [h1, hb, hc1]
end Go.Proofs.Ythonenmafbpbkaa

/- Flooding through a net: the law FloodReaches, by the program. -/
namespace Go.Proofs.Ythonenmafbpbkaa
open Go Go.Am
set_option maxHeartbeats 16000000 in
set_option maxRecDepth 10000 in
theorem h8 (R M : Int) (l : List Edg) (okR : ∀ e ∈ l, inI e.From ∧ inI e.To) (hlen : l.length < 140737488355328) (l0 : Lsa) (ok0 : okA l0) (start now : Int) : CFun Try.prog 8 [encGr R M l, encA l0, .int .i64 start, .int .i64 now] [] (.bool true) [] := by
 refine CFun.intro (tr := [100075, 105, 4000105, 213]) (fz := []) (n := 247) (rs := [.tmp 8]) Try.func8 rfl (by kernel_rfl) rfl rfl mixed (by kernel_rfl) (by simp) (by simp) ?_
 have k10 := fun H => f10.up' H rfl rfl
 have k28 := fun H => (h28 l0 ok0).up' H rfl rfl
 have k29 := fun H => (h29 R M l _ rfl hlen okR).up' H rfl rfl
 have hseal : (sealL l0).2 = 0 → okA (sealL l0).1 ∧ chkA (sealL l0).1 = 0 := by
   intro h
   unfold sealL at h ⊢
   split at h
   · rename_i hc; exact absurd h hc
   · rename_i hc
     rw [if_neg hc]
     have := sealed_seal ok0 (by simpa using hc)
     exact ⟨this.1, this.2.1⟩
 generalize sealL l0 = SE at *
 obtain ⟨S, E⟩ := SE
 simp only at hseal k28
 simp
 refine ⟨_, _, .inl (by simpa using k28 _), by simp, ?_⟩
 by_cases c1 : E = 0
 case neg =>
   simp [c1]
   refine ⟨_, _, .inl (by simpa using k10 _), by simp, ?_⟩
   simp
 obtain ⟨okS, chS⟩ := hseal c1
 obtain ⟨lk64, at64⟩ := chkA_len chS
 have okLS : okL S := ⟨by omega, by omega⟩
 have ageS : inI S.H.Age := okS.1.2.2.2.2.2.1
 by_cases c2 : chkG R M l = 0
 case neg =>
   generalize chkG R M l = z at *
   simp [c1]
   refine ⟨_, _, .inl (by simpa using k29 _), by simp, ?_⟩
   simp [c2]
   refine ⟨_, _, .inl (by simpa using k10 _), by simp, ?_⟩
   simp
 rw [c2] at k29
 by_cases c3 : M = 0
 case neg =>
   simp [c1]
   refine ⟨_, _, .inl (by simpa using k29 _), by simp, ?_⟩
   simp [c3]
   refine ⟨_, _, .inl (by simpa using k10 _), by simp, ?_⟩
   simp
 by_cases c4 : start < 0
 case pos =>
   simp [c1]
   refine ⟨_, _, .inl (by simpa using k29 _), by simp, ?_⟩
   simp [c3, c4]
   refine ⟨_, _, .inl (by simpa using k10 _), by simp, ?_⟩
   simp
 by_cases c5 : R ≤ start
 case pos =>
   simp [c1]
   refine ⟨_, _, .inl (by simpa using k29 _), by simp, ?_⟩
   simp [c3, c4, c5]
   refine ⟨_, _, .inl (by simpa using k10 _), by simp, ?_⟩
   simp
 by_cases c6 : 20 < R
 case pos =>
   simp [c1]
   refine ⟨_, _, .inl (by simpa using k29 _), by simp, ?_⟩
   simp [c3, c4, c5, c6]
   refine ⟨_, _, .inl (by simpa using k10 _), by simp, ?_⟩
   simp
 by_cases c7 : 3600 ≤ S.H.Age
 case pos =>
   simp [c1]
   refine ⟨_, _, .inl (by simpa using k29 _), by simp, ?_⟩
   simp [c3, c4, c5, c6, c7]
   refine ⟨_, _, .inl (by simpa using k10 _), by simp, ?_⟩
   simp
 by_cases c8 : now < 0
 case pos =>
   simp [c1]
   refine ⟨_, _, .inl (by simpa using k29 _), by simp, ?_⟩
   simp [c3, c4, c5, c6, c7, c8]
   refine ⟨_, _, .inl (by simpa using k10 _), by simp, ?_⟩
   simp
 by_cases c9 : 1099511627776 < now
 case pos =>
   simp [c1]
   refine ⟨_, _, .inl (by simpa using k29 _), by simp, ?_⟩
   simp [c3, c4, c5, c6, c7, c8, c9]
   refine ⟨_, _, .inl (by simpa using k10 _), by simp, ?_⟩
   simp
 obtain ⟨N, rfl⟩ := Int.eq_ofNat_of_zero_le (show 0 ≤ R by omega)
 obtain ⟨st, rfl⟩ := Int.eq_ofNat_of_zero_le (show 0 ≤ start by omega)
 have hN : N ≤ 20 := by omega
 have hst : st < N := by omega
 have m0 : ¬ (N : Int) < 0 := by omega
 have m1 : N ≤ 140737488355328 := by omega
 have m2 : (N : Int) ≤ 9223372036854775807 := by omega
 have m3 : 0 < N := by omega
 have m4 : N * 2 ≤ 281474976710656 := by omega
 have m5 : N * 48 ≤ 140737488355328 := by omega
 have m6 : 48 * N ≤ 281474976710656 := by omega
 subst c3
 obtain ⟨eL, eok, epw⟩ := chkG_ok c2
 obtain ⟨L, hL⟩ : ∃ L, L = l.length := ⟨_, rfl⟩
 rw [← hL] at eL
 have hL' := hL.symm
 simp [c1]
 refine ⟨_, _, .inl (by simpa using k29 _), by simp, ?_⟩
 simp [c4, c5, c6, c7, c8, c9, m0, m1, m2, m3, m4, m5, m6, hL']
 obtain ⟨W0, hW0⟩ : ∃ W0, W0 = cellsA l0 := ⟨_, rfl⟩
 refine LoopK.intro (tr := [100075, 105, 4000105, 213]) mixed (by kernel_rfl) (fun j : Nat => [(2, .int .i64 st), (3, .int .i64 now), (4, .ptr 0 0), (9, .ptr 2 0), (11, .osl 3 0 N (some N) 2), (78, .int .i64 L), (79, .int .i64 j)]) (fun j => [cellsGr N 0 l, cellsA l0, cellsA S, netC .own (netR N fun a => ([], prisL (adjT l (l.take j) a)))])
   (fun j => j ≤ L) (fun j => L - j) 0 (Nat.zero_le _) ?_ ?_
 · have hz : (netR N fun a => (([] : List Lsa), prisL (adjT l (l.take 0) a))) = List.replicate N ([], []) := by
     unfold netR
     have hf : (fun a => (([] : List Lsa), prisL (adjT l (l.take 0) a))) = fun _ => ([], []) := by
       funext a
       simp [adjT, prisL]
     rw [hf, List.map_const', List.length_range]
   rw [hz]
   simp [z_le]
 intro j hj
 by_cases hjL : j < L
 · have hjI : (j : Int) < L := by omega
   have hjl : j < l.length := by omega
   obtain ⟨e, he, hd⟩ := get_drop (l := l) (i := j) hjl
   obtain ⟨⟨o1, o2, o3, o4⟩, _⟩ := eok e (List.mem_of_getElem? he)
   obtain ⟨a, ha⟩ := Int.eq_ofNat_of_zero_le o1
   obtain ⟨b, hb⟩ := Int.eq_ofNat_of_zero_le o3
   have haN : a < N := by omega
   have haN1 : a + 1 ≤ N := haN
   have haI : (a : Int) < N := by omega
   have hbN : b < N := by omega
   have w1 : IntKind.i64.wrap ((j : Int) + 1) = j + 1 := wrap_in (by omega)
   have k30 := fun H => (h30 N 0 l L hL' eL e.To e.From).up' H rfl rfl
   have hlk : (l.find? (isEg e.To e.From)).isSome = lnkB l e := rfl
   rw [hlk, ha, hb] at k30
   obtain ⟨G, hG⟩ : ∃ G : Nat → List Lsa × List Ifs, G = fun a => ([], prisL (adjT l (l.take j) a)) := ⟨_, rfl⟩
   have hnext : (netR N fun x => (([] : List Lsa), prisL (adjT l (l.take (j + 1)) x))) = if lnkB l e = true then (netR N G).set a ([], (G a).2 ++ [ifF ((b : Int) + 1)]) else netR N G := by
     have hadj : ∀ x, adjT l (l.take (j + 1)) x = if x = a ∧ lnkB l e = true then adjT l (l.take j) x ++ [b] else adjT l (l.take j) x := by
       intro x
       unfold adjT
       rw [List.take_add_one, he, List.filter_append, List.map_append]
       by_cases hx : x = a
       · subst hx
         cases hq : lnkB l e <;> simp [ha, hb, hq]
       · have hx' : ¬ (a : Int) = x := by omega
         simp [hx, ha, hx']
     split
     · rename_i hq
       rw [netR_set]
       congr 1
       funext x
       rw [hadj x, hG]
       by_cases hx : x = a
       · subst hx; simp [hq, prisL]
       · simp [hx]
     · rename_i hq
       rw [hG]
       congr 1
       funext x
       rw [hadj x]
       simp [hq]
   rw [← hG]
   obtain ⟨g0, g1⟩ := netC_get .own (netR_get G haN)
   obtain ⟨_, t1⟩ := netC_set .own (netR_get G haN)
   have hCl := netC_len .own (netR N G)
   rw [netR_len] at hCl
   have hg1 : (G a).1 = [] := by rw [hG]
   rw [hg1] at t1
   have hGl : (G a).2.length ≤ 1024 := by
     rw [hG]
     simp only [prisL, List.length_map, adjT]
     exact Nat.le_trans (List.length_filter_le _ _) (by rw [List.length_take]; omega)
   obtain ⟨C, hC⟩ : ∃ C, C = netC .own (netR N G) := ⟨_, rfl⟩
   rw [← hC] at g0 g1 t1 hCl ⊢
   generalize (G a).2 = I at *
   generalize hQ : LoopPost _ _ _ _ _ _ _ = Q
   have hC1 : a * 2 + 1 < C.length := by omega
   have hC2 : a * 2 + 2 ≤ C.length := by omega
   have q1 : (I.length + 1) * 120 ≤ 140737488355328 := by omega
   have q2 : I.length ≤ 140737488355327 := by omega
   have w2 : IntKind.u32.wrap (b : Int) = b := by simp [IntKind.wrap, IntKind.signed, IntKind.bits]; omega
   have w3 : IntKind.u32.wrap ((b : Int) + 1) = b + 1 := by simp [IntKind.wrap, IntKind.signed, IntKind.bits]; omega
   simp [hjL, hjI, hL', hjl, he, gE he, ha, hb]
   refine ⟨_, _, .inl (by simpa using k30 _), by simp, ?_⟩
   cases hq : lnkB l e with
   | false =>
     simp [w1]
     rw [← hQ]
     simp only [LoopPost]
     refine ⟨j + 1, hjL, by omega, ?_⟩
     rw [hnext, if_neg (by rw [hq]; simp), ← hC]
     have hCle : LeCells 4 C C := by rw [hC]; exact netC_le _ _ _
     simp [hCle]
   | true =>
     have k31 := fun H => ((h31 ((b : Int) + 1)).wk [.int .i64 1, .sl 1 [.int .u32 ((b : Int) + 1)] .full] rfl (by simp [All2, LeS])).up' H rfl rfl
     simp [haN, haI, haN1, hC1, hC2, g1, gE g1, w1, w2, w3]
     refine ⟨_, _, .inl (by simpa using k31 _), by simp, ?_⟩
     simp [haN, haI, haN1, hC1, hC2, g1, gE g1, w1, w2, w3, q1, q2]
     rw [← hQ]
     simp only [LoopPost]
     refine ⟨j + 1, hjL, by omega, ?_⟩
     rw [hnext, if_pos hq, ← t1]
     have hCle : LeCells 4 (C.set (a * 2 + 1) (.sl 15 ((I ++ [ifF ((b : Int) + 1)]).map encIf) .own)) (C.set (a * 2 + 1) (.sl 15 ((I ++ [ifF ((b : Int) + 1)]).map encIf) .own)) := by rw [t1]; exact netC_le _ _ _
     simp at hCle
     simp [hCle]
 · have : j = L := by omega
   subst this
   obtain ⟨adj, hadj⟩ : ∃ adj : Nat → List Nat, adj = adjT l l := ⟨_, rfl⟩
   have htk : l.take j = l := List.take_of_length_le (by omega)
   rw [htk, ← hadj]
   obtain ⟨G, hG⟩ : ∃ G : Nat → List Lsa × List Ifs, G = fun a => ([], prisL (adj a)) := ⟨_, rfl⟩
   rw [← hG]
   obtain ⟨g0, g1⟩ := netC_get .own (netR_get G hst)
   obtain ⟨t0, _⟩ := netC_set .sh (netR_get G hst)
   have hCl := netC_len .own (netR N G)
   rw [netR_len] at hCl
   have hG2 : (G st).2 = prisL (adj st) := by rw [hG]
   rw [hG2] at t0
   have hdis : LeCells 4 ((netC .own (netR N G)).set (st * 2) (.sl 15 [encA S] .full)) (netC .sh ((netR N G).set st ([S], prisL (adj st)))) := by
     rw [← t0 [S]]
     exact LeCells_set (by simp [LeV, LeS]) (by simp [low, low0]) _ (netC_dis 4 _)
   have hasc : ∀ a, (adj a).Pairwise (· < ·) := fun a => by rw [hadj]; exact adjT_asc (fun e he => (eok e he).1) epw a
   have hadjN : ∀ a, ∀ b ∈ adj a, b < N := by
     intro a b hb
     rw [hadj] at hb
     exact adjT_in (fun e he => (eok e he).1) hb
   have hadjl : ∀ a, (adj a).length ≤ 20 := fun a => by
     have := asc_len (N := N) (c := 0) (Nat.zero_le _) (fun x hx => ⟨Nat.zero_le _, hadjN a x hx⟩) (hasc a)
     omega
   obtain ⟨A1, k32⟩ := h32at ((netR N G).set st ([S], prisL (adj st))) N (by simp [netR_len]) hN st hst [S] (adj st) (hadjl st) (fun b hb => by have := hadjN st b hb; omega) (by rw [List.getElem?_set_self (by simp [netR_len, hst])]) S (-1) 0 now ⟨by omega, by omega⟩ (fun j b _ e => by omega)
   have hflt : (adj st).filter (fun b : Nat => decide (¬ (b : Int) + 1 = 0)) = adj st := by
     rw [List.filter_eq_self]
     intro b _
     have : ¬ (b : Int) + 1 = 0 := by omega
     simp [this]
   rw [hflt] at k32
   generalize netC .own (netR N G) = C0 at *
   have c21 : st * 2 < C0.length := by omega
   have c22 : st * 2 + 1 ≤ C0.length := by omega
   have hst1 : st + 1 ≤ N := hst
   have hstI : (st : Int) < N := by omega
   simp [hL', hst, hst1, hstI, c21, c22]
   refine ⟨_, _, .inl ((k32 [cellsGr N 0 l, cellsA l0, cellsA S, netC .sh ((netR N G).set st ([S], prisL (adj st)))] 3 rfl).less (H := [cellsGr N 0 l, cellsA l0, cellsA S, C0.set (st * 2) (.sl 15 [encA S] .full)]) rfl (by simp at hdis; simp [hdis])), by simp, ?_⟩
   have hnet1 : ((netR N G).set st ([S], prisL (adj st))).set st ([S], A1) = netR N fun i => if putI (fun _ => false) st i = true then ([S], A1) else ([], prisL (adj i)) := by
     rw [List.set_set, netR_set]
     congr 1
     funext i
     by_cases e : i = st
     · simp [e, putI]
     · simp [e, putI, hG]
   rw [hnet1]
   obtain ⟨LQ, hLQ⟩ : ∃ LQ : List (Nat × Nat) → List AVal, LQ = fun Q => (Q.map fun p => ((p.1 : Int), (p.2 : Int) + 1)).map (encT S) := ⟨_, rfl⟩
   have hLQ0 : (((adj st).map fun b : Nat => ((b : Int), (st : Int) + 1)).map (encT S)) = LQ ((adj st).map fun b => (b, st)) := by
     rw [hLQ]
     simp [List.map_map, Function.comp_def]
   rw [hLQ0]
   have hLl : ∀ Q, (LQ Q).length = Q.length := fun Q => by rw [hLQ]; simp
   have hLg : ∀ (Q : List (Nat × Nat)) (k : Nat) (p : Nat × Nat), Q[k]? = some p → (LQ Q)[k]? = some (encT S ((p.1 : Int), (p.2 : Int) + 1)) := fun Q k p hp => by rw [hLQ]; simp [hp]
   have hLa : ∀ Q Q', LQ (Q ++ Q') = LQ Q ++ LQ Q' := fun Q Q' => by rw [hLQ]; simp
   have hLf : ∀ (bs : List Nat) (a : Nat), (bs.map fun b : Nat => ((b : Int), (a : Int) + 1)).map (encT S) = LQ (bs.map fun b => (b, a)) := fun bs a => by rw [hLQ]; simp [List.map_map, Function.comp_def]
   clear hLQ hLQ0 k32 hdis hnet1 c21 c22
   simp
   refine LoopK.intro (tr := [100075, 105, 4000105, 213]) mixed (by kernel_rfl) (fun q : Nat × (Nat → Bool) × (Nat → List Ifs) × List (Nat × Nat) => [(2, .int .i64 st), (3, .int .i64 now), (4, .ptr 0 0), (11, .osl 3 0 N (some N) 2), (16, .sl 17 (LQ q.2.2.2) .own), (17, .int .i64 q.1)]) (fun q => [cellsGr N 0 l, cellsA l0, cellsA S, netC .sh (netR N fun i => if q.2.1 i = true then ([S], q.2.2.1 i) else ([], prisL (adj i)))])
     (fun q => Fl N adj st q.2.1 q.2.2.2 q.1) (fun q => (N - cntI N q.2.1) * 400 + (q.2.2.2.length - q.1)) (0, putI (fun _ => false) st, fun _ => A1, (adj st).map fun b => (b, st)) ?_ ?_ ?_
   · exact Fl.start0 hst (hadjl st) (hadjN st)
   · simp [netC_le]
   rintro ⟨k, f, X, Q⟩ hFl
   simp only at hFl ⊢
   have hQl := hFl.len
   have hcn := cntI_le f N
   by_cases hk : k < Q.length
   · obtain ⟨p, hp⟩ : ∃ p, Q[k]? = some p := ⟨_, List.getElem?_eq_getElem hk⟩
     obtain ⟨b, a⟩ := p
     obtain ⟨q1, q2, q3, q4⟩ := hFl.q (b, a) (List.mem_of_getElem? hp)
     simp only at q1 q2 q3 q4
     have hkI : (k : Int) < Q.length := by omega
     have hk1 : (k : Int) < 1000 := by omega
     have hkL : k < (LQ Q).length := by rw [hLl]; exact hk
     have hpL := hLg Q k (b, a) hp
     simp only at hpL
     have hbI : (b : Int) < N := by omega
     have hb0 : ¬ (b : Int) < 0 := by omega
     have hb1 : b + 1 ≤ N := q1
     have hbN : ¬ (N : Int) ≤ b := by omega
     have w1 : IntKind.i64.wrap ((k : Int) + 1) = k + 1 := wrap_in (by omega)
     have w2 : IntKind.u32.wrap (b : Int) = b := by simp [IntKind.wrap, IntKind.signed, IntKind.bits]; omega
     have w3 : IntKind.u32.wrap ((b : Int) + 1) = b + 1 := by simp [IntKind.wrap, IntKind.signed, IntKind.bits]; omega
     obtain ⟨g, hg⟩ : ∃ g : Nat → List Lsa × List Ifs, g = fun i => if f i = true then ([S], X i) else ([], prisL (adj i)) := ⟨_, rfl⟩
     rw [← hg]
     obtain ⟨g0, g1⟩ := netC_get .sh (netR_get g q1)
     obtain ⟨t0, _⟩ := netC_set .sh (netR_get g q1)
     have hCl := netC_len .sh (netR N g)
     rw [netR_len] at hCl
     obtain ⟨C, hC⟩ : ∃ C, C = netC .sh (netR N g) := ⟨_, rfl⟩
     have hCle : ∀ n, LeCells n C C := fun n => by rw [hC]; exact netC_le n .sh _
     rw [← hC] at g0 g1 t0 hCl ⊢
     have d1 : b * 2 < C.length := by omega
     have d2 : b * 2 + 1 ≤ C.length := by omega
     have d3 : b * 2 + 1 < C.length := by omega
     have d4 : b * 2 + 2 ≤ C.length := by omega
     generalize hQ : LoopPost _ _ _ _ _ _ _ = Q9
     cases hf : f b with
     | true =>
       have hgb : g b = ([S], X b) := by rw [hg]; simp [hf]
       rw [hgb] at g0 g1 t0
       have k26 := fun H => (d26 [S] 1 rfl (by omega) (fun x hx => by rw [List.mem_singleton.1 hx]; exact okLS) S ((b : Int) + 1)).up' H rfl rfl
       have hdec : decN [S] S ((b : Int) + 1) = (false, false, false) := by
         have e1 : cmpD [S] S.H = 0 := by
           unfold cmpD
           have : [S].find? (hasK (keyH S.H)) = some S := by simp [hasK, keyA]
           rw [this]
           exact cmpH_self S.H ageS
         simp [decN, e1]
       rw [hdec] at k26
       simp only [List.map_cons, List.map_nil] at g0
       simp [hk, hkI, hk1, hkL, hLl, hpL, gE hpL, hb0, hbN, hbI, q1, hb1, d1, d2, g0, gE g0, w2, w3]
       refine ⟨_, _, .inl (by simpa using k26 _), by simp, ?_⟩
       simp [w1]
       rw [← hQ]
       simp only [LoopPost]
       refine ⟨(k + 1, f, X, Q), hFl.skip hp hf, by simp only; omega, ?_⟩
       simp only [← hg, ← hC]
       simp [hCle]
     | false =>
       have hgb : g b = ([], prisL (adj b)) := by rw [hg]; simp [hf]
       rw [hgb] at g0 g1 t0
       have k26 := fun H => (d26 [] 0 rfl (by omega) (fun x hx => by cases hx) S ((b : Int) + 1)).up' H rfl rfl
       have hdec : decN [] S ((b : Int) + 1) = (true, false, decide (S.H.Router = (b : Int) + 1)) := by
         have : ¬ S.H.Age = 3600 := by omega
         simp [decN, cmpD, getD_, this]
       rw [hdec] at k26
       have k33 := fun H => (f88 [] 0 rfl (by omega) S).up' H rfl rfl
       have hins : insW S false [] = [S] := rfl
       rw [hins] at k33
       simp only [List.map_cons, List.map_nil] at g0 k26 k33
       simp [hk, hkI, hk1, hkL, hLl, hpL, gE hpL, hb0, hbN, hbI, q1, hb1, d1, d2, g0, gE g0, w2, w3]
       refine ⟨_, _, .inl (by simpa using k26 _), by simp, ?_⟩
       simp [hb0, hbN, hbI, q1, hb1, d1, d2, g0, gE g0]
       refine ⟨_, _, .inl (by simpa using k33 _), by simp, ?_⟩
       have hs0 := t0 [S]
       simp only [List.map_cons, List.map_nil] at hs0
       have g1s : ∀ v, (C.set (b * 2) v)[b * 2 + 1]? = some (.sl 15 ((prisL (adj b)).map encIf) .sh) := fun v => by
         rw [List.getElem?_set_ne (by omega)]
         exact g1
       obtain ⟨m, hm⟩ : ∃ m, m = (adj b).length := ⟨_, rfl⟩
       have hPm : (prisL (adj b)).length = m := by rw [hm]; simp [prisL]
       obtain ⟨C2, hC2⟩ : ∃ C2, C2 = C.set (b * 2) (.sl 15 [encA S] .sh) := ⟨_, rfl⟩
       have hC2n : C2 = netC .sh ((netR N g).set b ([S], prisL (adj b))) := by rw [hC2, hs0]
       have hC2le : ∀ n, LeCells n C2 C2 := fun n => by rw [hC2n]; exact netC_le n .sh _
       have g12 : C2[b * 2 + 1]? = some (.sl 15 ((prisL (adj b)).map encIf) .sh) := by rw [hC2]; exact g1s _
       have d32 : b * 2 + 1 < C2.length := by rw [hC2]; simpa using d3
       have d42 : b * 2 + 2 ≤ C2.length := by rw [hC2]; simpa using d4
       simp [hb0, hbN, hbI, q1, hb1, d1, d2, g0, gE g0, g1s, gE g1, d3, d4, hPm]
       refine LoopK.intro (tr := [100075, 105, 4000105, 213]) mixed (by kernel_rfl) (fun q : Nat × Int => [(2, .int .i64 st), (3, .int .i64 now), (4, .ptr 0 0), (11, .osl 3 0 N (some N) 2), (16, .sl 17 (LQ Q) .own), (17, .int .i64 k), (18, .ptr 4 0), (22, .int .i64 q.2), (191, .int .i64 m), (192, .int .i64 q.1)]) (fun _ => [cellsGr N 0 l, cellsA l0, cellsA S, C2, cellsT S ((b : Int), (a : Int) + 1)])
         (fun q => q.1 ≤ m ∧ ∀ (j x : Nat), j < q.1 → (adj b)[j]? = some x → (x : Int) + 1 = (a : Int) + 1 → (j : Int) = q.2) (fun q => m - q.1) (0, -1) ?_ ?_ ?_
       · exact ⟨Nat.zero_le _, fun j x hj => by omega⟩
       · have := hC2le 5
         rw [hC2] at this ⊢
         simp at this
         simp [this]
       rintro ⟨i, v⟩ ⟨i1, i2⟩
       simp only at i1 i2 ⊢
       by_cases hi : i < m
       · have hiI : (i : Int) < m := by omega
         obtain ⟨x, hx⟩ : ∃ x, (adj b)[i]? = some x := ⟨_, List.getElem?_eq_getElem (by omega)⟩
         have hpx : (prisL (adj b))[i]? = some (ifF ((x : Int) + 1)) := by simp [prisL, hx]
         have hil : i < (prisL (adj b)).length := by omega
         have w4 : IntKind.i64.wrap ((i : Int) + 1) = i + 1 := wrap_in (by have := hadjl b; omega)
         have huniq : ∀ (j : Nat), j < i → (adj b)[j]? = some x → False := by
           intro j hj hjx
           have hjl : j < (adj b).length := (List.getElem?_eq_some_iff.1 hjx).1
           have hil2 : i < (adj b).length := (List.getElem?_eq_some_iff.1 hx).1
           have h1 := List.pairwise_iff_getElem.1 (hasc b) j i hjl hil2 hj
           rw [gE hjx, gE hx] at h1
           omega
         have hnb : (ifF ((x : Int) + 1)).Nb = [nbrF ((x : Int) + 1)] := rfl
         have hrt : (nbrF ((x : Int) + 1)).Router = (x : Int) + 1 := rfl
         generalize hQ5 : LoopPost _ _ _ _ _ _ _ = Q5
         by_cases hxa : x = a
         · subst hxa
           simp [hi, hiI, hbI, hb0, q1, hb1, g12, gE g12, d32, d42, hPm, hil, hpx, gE hpx, hnb, hrt, w4]
           rw [← hQ5]
           simp only [LoopPost]
           refine ⟨(i + 1, (i : Int)), ⟨hi, fun j y hj hy e => ?_⟩, by simp only; omega, ?_⟩
           · by_cases hji : j = i
             · simp [hji]
             · have e2 : y = x := by omega
               exact (huniq j (by omega) (by rw [hy, e2])).elim
           · simp [hC2le]
         · have hxa2 : ¬ (x : Int) = a := by omega
           simp [hi, hiI, hbI, hb0, q1, hb1, g12, gE g12, d32, d42, hPm, hil, hpx, gE hpx, hnb, hrt, hxa2, w4]
           rw [← hQ5]
           simp only [LoopPost]
           refine ⟨(i + 1, v), ⟨hi, fun j y hj hy e => ?_⟩, by simp only; omega, ?_⟩
           · by_cases hji : j = i
             · subst hji
               rw [hx] at hy
               obtain rfl := Option.some.inj hy
               omega
             · exact i2 j y (by omega) hy e
           · simp [hC2le]
       · have him : i = m := by omega
         obtain ⟨A2, k32b⟩ := h32at ((netR N g).set b ([S], prisL (adj b))) N (by simp [netR_len]) hN b q1 [S] (adj b) (hadjl b) (fun x hx => by have := hadjN b x hx; omega) (by rw [List.getElem?_set_self (by simp [netR_len, q1])]) S v ((a : Int) + 1) now ⟨by omega, by omega⟩ (fun j y hy e => i2 j y (by have := (List.getElem?_eq_some_iff.1 hy).1; omega) hy e)
         have hfe : (adj b).filter (fun y : Nat => decide (¬ (y : Int) + 1 = (a : Int) + 1)) = (adj b).filter fun y => decide (¬ y = a) := by
           refine List.filter_congr fun y _ => ?_
           by_cases e : y = a
           · simp [e]
           · have : ¬ (y : Int) = a := by omega
             simp [e, this]
         rw [hfe, hLf] at k32b
         have hnet2 : ((netR N g).set b ([S], prisL (adj b))).set b ([S], A2) = netR N fun i => if putI f b i = true then ([S], (fun i => if i = b then A2 else X i) i) else ([], prisL (adj i)) := by
           rw [List.set_set, netR_set]
           congr 1
           funext i
           by_cases e : i = b
           · simp [e, putI]
           · simp [e, putI, hg]
         rw [hnet2] at k32b
         obtain ⟨Q', hQ'⟩ : ∃ Q', Q' = ((adj b).filter fun y => decide (¬ y = a)).map fun y => (y, b) := ⟨_, rfl⟩
         rw [← hQ'] at k32b
         have hQ'l : Q'.length ≤ 20 := by
           rw [hQ', List.length_map]
           exact Nat.le_trans (List.length_filter_le _ _) (hadjl b)
         have hstep := hFl.take hp hf (hadjl b) (hadjN b)
         simp only at hstep
         rw [← hQ'] at hstep
         have hcp : cntI N (putI f b) = cntI N f + 1 := cntI_put hf q1
         have hcn2 := cntI_le (putI f b) N
         have e1 : ((LQ Q).length + (LQ Q').length) * 152 ≤ 140737488355328 := by rw [hLl, hLl]; omega
         have e4 : Q.length + Q'.length ≤ 140737488355328 := by omega
         have e2 : (LQ Q).length ≤ 140737488355328 := by rw [hLl]; omega
         have e3 : (LQ Q').length ≤ 140737488355328 := by rw [hLl]; omega
         rw [hLl] at e2 e3
         rw [hLl, hLl] at e1
         simp [him]
         refine ⟨_, _, .inl (by simpa using k32b [cellsGr N 0 l, cellsA l0, cellsA S, C2, cellsT S ((b : Int), (a : Int) + 1)] 3 (by rw [hC2n]; rfl)), by simp, ?_⟩
         simp [hLl, e1, e2, e3, e4, w1]
         rw [← hQ]
         simp only [LoopPost]
         refine ⟨(k + 1, putI f b, fun i => if i = b then A2 else X i, Q ++ Q'), hstep, by simp only [List.length_append]; omega, ?_⟩
         simp only
         rw [hLa]
         simp [netC_le]
   · have hkQ : k = Q.length := by have := hFl.kle; omega
     have k34 := fun H => (h34 N hN st hst 0 l _ hL' eL (fun e he => (eok e he).1)).up' H rfl rfl
     obtain ⟨Z, hZ⟩ : ∃ Z, Z = itB l N (startB N st) := ⟨_, rfl⟩
     rw [← hZ] at k34
     have hZl : Z.length = N := by rw [hZ, itB_len]; simp [startB]
     have hZr : ∀ i, i < N → (Z[i]? = some true ↔ Rch adj st i) := fun i hi => by rw [hZ, hadj]; exact itB_all (fun e he => (eok e he).1) hst i hi
     clear hZ
     have hfin := hFl.fin hkQ
     simp [hkQ, hLl]
     refine ⟨_, _, .inl (by simpa using k34 _), by simp, ?_⟩
     simp
     obtain ⟨g, hg⟩ : ∃ g : Nat → List Lsa × List Ifs, g = fun i => if f i = true then ([S], X i) else ([], prisL (adj i)) := ⟨_, rfl⟩
     rw [← hg]
     obtain ⟨C, hC⟩ : ∃ C, C = netC .sh (netR N g) := ⟨_, rfl⟩
     have hCle : ∀ n, LeCells n C C := fun n => by rw [hC]; exact netC_le n .sh _
     have hCl := netC_len .sh (netR N g)
     rw [netR_len, ← hC] at hCl
     rw [← hC]
     refine LoopK.intro (tr := [100075, 105, 4000105, 213]) mixed (by kernel_rfl) (fun i : Nat => [(11, .osl 3 0 N (some N) 2), (24, .sl 1 (Z.map .bool) .sh), (229, .int .i64 N), (230, .int .i64 i)]) (fun _ => [cellsGr N 0 l, cellsA l0, cellsA S, C])
       (fun i => i ≤ N) (fun i => N - i) 0 (Nat.zero_le _) ?_ ?_
     · simp [hCle]
     intro i hi
     by_cases hiN : i < N
     · have hiI : (i : Int) < N := by omega
       have hi1 : i + 1 ≤ N := hiN
       have w1 : IntKind.i64.wrap ((i : Int) + 1) = i + 1 := wrap_in (by omega)
       have hZi : Z[i]? = some (f i) := by
         have h1 := hZr i hiN
         rw [← hfin i] at h1
         have hz : i < Z.length := by omega
         rw [List.getElem?_eq_getElem hz] at h1 ⊢
         cases hf : f i with
         | true => rw [hf] at h1; exact h1.2 rfl
         | false =>
           cases hzz : Z[i] with
           | false => rfl
           | true => rw [hzz, hf] at h1; simp at h1
       obtain ⟨g0, _⟩ := netC_get .sh (netR_get g hiN)
       rw [← hC] at g0
       have hgl : (g i).1.length = if f i = true then 1 else 0 := by rw [hg]; simp only; split <;> rfl
       have d1 : i * 2 < C.length := by omega
       have d2 : i * 2 + 1 ≤ C.length := by omega
       have hiZ : i < Z.length := by omega
       generalize (g i).1 = D at *
       cases hf : f i with
       | true =>
         rw [hf] at hZi hgl
         simp only [if_true] at hgl
         simp [hiN, hiI, hi1, hZl, hZi, gE hZi, hiZ, d1, d2, g0, gE g0, hgl, w1]
         exact ⟨i + 1, hiN, by omega, by simp, hCle 4⟩
       | false =>
         rw [hf] at hZi hgl
         simp only [Bool.false_eq_true, if_false] at hgl
         simp [hiN, hiI, hi1, hZl, hZi, gE hZi, hiZ, d1, d2, g0, gE g0, hgl, w1]
         exact ⟨i + 1, hiN, by omega, by simp, hCle 4⟩
     · have : i = N := by omega
       simp [this]
       refine ⟨_, _, .inl (by simpa using k10 _), by simp, ?_⟩
       simp
def csE : List CTy := [.int .i64, .int .i64, .int .i64]
def tyGr : Bool × List CTy := (true, [.int .i64, .int .i64, .sl true 24 csE])
theorem rd_Gr {x : AVal} (h : RdA tyGr x) : ∃ (R M : Int) (l : List Edg), x = encGr R M l ∧ l.length * 24 ≤ 140737488351232 ∧ ∀ e ∈ l, inI e.From ∧ inI e.To := by
 obtain ⟨cs, h1, h⟩ := h
 obtain ⟨a1, r, rfl, h, _⟩ := Rds_int h
 obtain ⟨a2, r, rfl, h, _⟩ := Rds_int h
 obtain ⟨l, r, rfl, h, z⟩ := Rds_sl (enc := fun x : { x : Edg // inI x.From ∧ inI x.To } => encE x.1) h (fun y cs e h => by
   obtain ⟨b1, r, rfl, h, v1⟩ := Rds_int h
   obtain ⟨b2, r, rfl, h, v2⟩ := Rds_int h
   obtain ⟨b3, r, rfl, h, _⟩ := Rds_int h
   obtain rfl := Rds_nil h
   exact ⟨⟨⟨b1, b2, b3⟩, wf_i64 v1, wf_i64 v2⟩, by rw [if_pos rfl] at e; exact e⟩)
 obtain rfl := Rds_nil h
 refine ⟨a1, a2, l.map (·.1), ?_, by simpa [reachBytes] using z, fun e he => ?_⟩
 · rw [if_pos (show tyGr.1 = true from rfl)] at h1
   rw [h1]
   simp [csE, Function.comp_def]
 · obtain ⟨y, _, rfl⟩ := List.mem_map.1 he
   exact y.2
end Go.Proofs.Ythonenmafbpbkaa
