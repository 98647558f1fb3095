/- slices.Clone of nothing. -/
import Derived.Test.YthonenmafbpbkaaFI1
import Derived.Lib.SliceRun
import Derived.Test.YthonenmafbpbkaaBmZ
import Derived.Test.YthonenmafbpbkaaFXE6
set_option linter.unusedSimpArgs false
set_option linter.unusedVariables false
namespace Go.Proofs.Ythonenmafbpbkaa
open Go Go.Am Go.RowKit Go.Shelf
attribute [local go_sem] Oper.semAt_some
theorem cpost_grown {G : Gh} {w w' : World} {H : List (List AVal)} {x : AVal} {v : Value} (hs : SR G H w) (hc : ∀ b i, G.K b ≠ some (.tmp i)) (hg : w.grownBy w' none) (hx : Rep H.length G.r G.F x v) (ho : x.isOwn = false) : CPost G w H x H (.returned v) w' :=
 ⟨v, G, rfl, (Ext.refl _ _ G w).grown hg (Nat.le_refl _) (fun r e => by cases e), hs.grown hg (fun r e => by cases e), hx, OwnAt.of_not ho, hc, Nat.le_refl _⟩
set_option maxRecDepth 100000 in
set_option maxHeartbeats 4000000 in
theorem cl_e (md : Am.Mode) : CFun Try.prog 59 [.sl 0 [] md] [] (.sl 0 [] .full) [] := by
 refine ⟨⟨_, Try.func59, rfl, rfl⟩, fun G w cargs hs hc hr hz hrep => ?_⟩
 obtain ⟨v, rfl⟩ : ∃ v, cargs = #[v] := by
   have hz : cargs.size = 1 := hz
   refine ⟨cargs[0], ?_⟩
   apply Array.ext
   · simpa using hz
   · intro i h1 h2
     obtain rfl : i = 0 := by simp at h2; omega
     rfl
 have hv := (hrep 0 _ v rfl rfl).toTree rfl
 obtain ⟨base, cap, L, rfl, r2, r3, r4, r5, r6, r7, r8, r9, r10⟩ := hv.slcells
 refine (callsIn_wide (n := 1)).1 ?_
 refine callsIn_of_wp Try.func59 rfl trivial ?_ rfl
 simp only [Try.ntmps59, List.size_toArray, List.length_cons, List.length_nil, Nat.reduceAdd, Nat.reduceSub, Array.replicate_succ, Array.replicate_zero, List.push_toArray, List.append_toArray, List.nil_append, List.cons_append]
 have hq := fun (a : Option Addr) (n c : Nat) => Lib.run_eql_slice_nil (P := Try.prog) w 36 26 a n c 0 0 (by kernel_rfl)
 cases base with
 | none =>
   obtain ⟨_, rfl⟩ := r4 rfl
   gi_wp2
   exact ⟨rfl, _, results_tmp rfl _ _ _, cpost_grown hs hc ⟨rfl, rfl, rfl, Nat.le_refl _, fun _ _ _ => rfl⟩ (.tree _ _ (.slnil 0 .full)) rfl⟩
 | some ad =>
   gi_wp2
   refine ⟨rfl, _, results_tmp rfl _ _ _, cpost_grown hs hc ⟨rfl, rfl, rfl, by simp, fun k hk _ => alloc_old _ _ hk⟩ ?_ rfl⟩
   exact .tree _ _ (.sl 0 [] .full _ 0 0 (fun _ => undef) rfl (Nat.le_refl _) (by simp) (by simp) (by simp) (by simp) (by simp) (by simp) (by simp))
end Go.Proofs.Ythonenmafbpbkaa

/- The examples of the document, by a run. -/
namespace Go.Proofs.Ythonenmafbpbkaa
open Go Go.Am
def fIts : Its := fun f => if f = 78 then some (14, 15) else none
theorem fIts_ok : ItsOk Try.prog fIts := by
 intro gf c k h
 unfold fIts at h
 split at h
 case isFalse => cases h
 rename_i hf
 subst hf
 injection h with h
 injection h with e1 e2
 subst e1 e2
 exact ⟨iter78, _, Try.func78, rfl, rfl⟩
def fTb : CallF := fun f args H => if f = 59 then (match args with
 | [.sl 0 [] .full] => some (.sl 0 [] .full, H)
 | [.sl 0 [] .sh] => some (.sl 0 [] .full, H)
 | _ => none) else none
theorem fTb_ok : CallOk Try.prog fTb := by
 intro f args H x H' h
 unfold fTb at h
 split at h
 case isFalse => cases h
 rename_i hf
 subst hf
 split at h
 · injection h with h; injection h with e1 e2; subst e1 e2
   exact (cl_e .full).up' H rfl rfl
 · injection h with h; injection h with e1 e2; subst e1 e2
   exact (cl_e .sh).up' H rfl rfl
 · cases h
def fCfg : Cfg := [(37, [100009], []), (76, [100007], []), (31, [18], []), (11, [], [(504014, 5, true), (504029, 7, true), (12, 4, true)])] ++ ([10, 36, 38, 39, 40, 41, 42, 43, 44, 49, 50, 54, 55, 56, 61, 77, 79, 80, 81, 82, 83, 85, 89, 90, 106, 107, 109, 119, 120].map fun i => (i, [], []))
theorem f10 : CFun Try.prog 10 [] [] (.bool true) [] := CFun.run mixed fIts_ok fCfg fTb fTb_ok 300 (by kernel_rfl) (by kernel_rfl)
end Go.Proofs.Ythonenmafbpbkaa

/- What is decided of an instance; the law FloodDecides. -/
namespace Go.Proofs.Ythonenmafbpbkaa
open Go Go.Am
def decN (db : List Lsa) (l : Lsa) (self : Int) : Bool × Bool × Bool :=
 (decide (cmpD db l.H = 1) && ((getD_ db (keyH l.H)).2 || decide (l.H.Age ≠ 3600)), decide (cmpD db l.H = -1), (decide (cmpD db l.H = 1) && ((getD_ db (keyH l.H)).2 || decide (l.H.Age ≠ 3600))) && decide (l.H.Router = self))
@[simp] def encD3 (q : Bool × Bool × Bool) : AVal := .tup [.bool q.1, .bool q.2.1, .bool q.2.2]
set_option maxHeartbeats 4000000 in
set_option maxRecDepth 10000 in
theorem d26 (db : List Lsa) (n : Nat) (hn : db.length = n) (hlen : n < 1099511627776) (ok : ∀ x ∈ db, okL x) (l : Lsa) (self : Int) : CFun Try.prog 26 [.sl 15 (db.map encA) .sh, encA l, .int .u32 self] [] (encD3 (decN db l self)) [] := by
 refine CFun.intro (tr := []) (fz := []) (n := 46) (rs := [.tmp 6, .tmp 7, .tmp 8]) Try.func26 rfl (by kernel_rfl) rfl rfl mixed (by kernel_rfl) (by simp) (by simp) ?_
 have k1 := fun H => (f36 db n hn hlen ok l.H).up' H rfl rfl
 have k2 := fun H => (c25 l.H).up' H rfl rfl
 have k3 := fun H => (f37 db n hn hlen ok (keyH l.H)).up' H rfl (by simp [noid, noid0])
 have hb : (l.H.Router == self) = decide (l.H.Router = self) := rfl
 unfold decN
 generalize keyH l.H = q at *
 generalize cmpD db l.H = c at *
 have hc1 : (c == -1) = decide (c = -1) := rfl
 generalize getD_ db q = g at *
 obtain ⟨a, b⟩ := g
 simp
 refine ⟨_, _, .inl (by simpa using k1 _), by simp, ?_⟩
 simp
 refine ⟨_, _, .inl (by simpa using k2 _), by simp, ?_⟩
 simp
 refine ⟨_, _, .inl (by simpa using k3 _), by simp, ?_⟩
 by_cases h1 : c = 1
 · subst h1
   cases b with
   | true => simp [hb]
   | false =>
     by_cases h2 : l.H.Age = 3600
     · simp [h2, hb]
     · simp [h2, hb]
 · simp [h1, hb, hc1]
set_option maxHeartbeats 4000000 in
set_option maxRecDepth 10000 in
theorem d27 (db : List Lsa) (n : Nat) (hn : db.length = n) (hlen : n < 1099511627776) (ha : ∀ x ∈ db, inI x.H.Age) (l : Lsa) (hl : inI l.H.Age) (self : Int) : CFun Try.prog 27 [.sl 15 (db.map encA) .sh, encA l, .int .u32 self] [] (encD3 (decN db l self)) [] := by
 refine CFun.intro (tr := []) (fz := []) (n := 40) (rs := [.tmp 6, .tmp 7, .tmp 8]) Try.func27 rfl (by kernel_rfl) rfl rfl mixed (by kernel_rfl) (by simp) (by simp) ?_
 have k1 := fun H => (f49 db n hn hlen l.H hl ha).up' H rfl rfl
 have k2 := fun H => (c26 l.H).up' H rfl rfl
 have k3 := fun H => (f87 db n hn hlen (keyH l.H)).up' H rfl rfl
 have hb : (l.H.Router == self) = decide (l.H.Router = self) := rfl
 unfold decN
 have hg := idx_get db (keyH l.H)
 generalize keyH l.H = q at *
 generalize cmpD db l.H = c at *
 have hc1 : (c == -1) = decide (c = -1) := rfl
 generalize getD_ db q = g at *
 obtain ⟨a, b⟩ := g
 generalize idxL (hasK q) db 0 = ix at *
 simp
 refine ⟨_, _, .inl (by simpa using k1 _), by simp, ?_⟩
 by_cases h2 : l.H.Age = 3600
 case neg =>
   by_cases h1 : c = 1
   · simp [h2, h1, hb, hc1]
   · simp [h2, h1, hb, hc1]
 simp [h2]
 refine ⟨_, _, .inl (by simpa [h2] using k2 _), by simp, ?_⟩
 simp
 refine ⟨_, _, .inl (by simpa using k3 _), by simp, ?_⟩
 rcases hg with ⟨e1, e2⟩ | ⟨i, x, e1, _, _, e2⟩
 · injection e2 with _ e2
   subst e1 e2
   by_cases h1 : c = 1
   · simp [h1, hb, hc1, h2]
   · simp [h1, hb, hc1, h2]
 · injection e2 with _ e2
   subst e1 e2
   have h5 : ¬ ((i : Int) < 0) := by omega
   by_cases h1 : c = 1
   · simp [h1, h5, hb, hc1, h2]
   · simp [h1, h5, hb, hc1, h2]
set_option maxHeartbeats 4000000 in
set_option maxRecDepth 10000 in
theorem d7 (db : List Lsa) (n : Nat) (hn : db.length = n) (hlen : n < 1099511627776) (hd : ∀ x ∈ db, okD x) (l : Lsa) (hl : okD l) (self : Int) : CFun Try.prog 7 [.sl 15 (db.map encA) .sh, encA l, .int .u32 self] [] (.bool true) [] := by
 refine CFun.intro (tr := []) (fz := []) (n := 56) (rs := [.tmp 6]) Try.func7 rfl (by kernel_rfl) rfl rfl mixed (by kernel_rfl) (by simp) (by simp) ?_
 have h10 := fun H => f10.up' H rfl rfl
 have h25 := fun H => (f24 db n hn hlen (fun x hx => (hd x hx).1)).up' H rfl rfl
 have h26 := fun H => (d26 db n hn hlen (fun x hx => (hd x hx).2) l self).up' H rfl rfl
 have h27 := fun H => (d27 db n hn hlen (fun x hx => (hd x hx).1.1.2.2.2.2.2.1) l hl.1.1.2.2.2.2.2.1 self).up' H rfl rfl
 have hno : ¬ ((decN db l self).1 = true ∧ (decN db l self).2.1 = true) := by
   unfold decN
   simp only [Bool.and_eq_true, decide_eq_true_eq]
   rintro ⟨⟨h1, _⟩, h2⟩
   omega
 by_cases hc : chkD db = 0
 case neg =>
   simp
   refine ⟨_, _, .inl (by simpa using h25 _), by simp, ?_⟩
   simp [hc]
   refine ⟨_, _, .inl (by simpa using h10 _), by simp, ?_⟩
   simp
 rw [hc] at h25
 generalize decN db l self = D at *
 obtain ⟨a, b, c⟩ := D
 simp
 refine ⟨_, _, .inl (by simpa using h25 _), by simp, ?_⟩
 simp
 refine ⟨_, _, .inl (by simpa using h26 _), by simp, ?_⟩
 simp
 refine ⟨_, _, .inl (by simpa using h27 _), by simp, ?_⟩
 cases a <;> cases b <;> simp at hno <;> cases c <;> simp <;> exact ⟨_, _, .inl (by simpa using h10 _), by simp, by simp⟩
end Go.Proofs.Ythonenmafbpbkaa
