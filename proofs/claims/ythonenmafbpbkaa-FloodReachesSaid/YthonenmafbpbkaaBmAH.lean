/- The abstract machine, part thirty-four: what may be said instead of a state; loops by a predicate of the state; contracts whose result is told by a predicate; variables that are known by their numbers alone. -/
import Derived.Test.YthonenmafbpbkaaBmAG
namespace Go.Am
open Go

/-- s' may be said instead of s. -/
def Sim (n m : Nat) (s s' : ASt) : Prop := ∀ (G0 : Gh) (w0 : World) (G : Gh) (a : Act) (w : World), R n m G0 w0 s G a w → ∃ G', R n m G0 w0 s' G' a w
theorem Sim.refl {n m : Nat} {s : ASt} : Sim n m s s := fun _ _ G _ _ h => ⟨G, h⟩
theorem Sim.trans {n m : Nat} {s s' s'' : ASt} (h : Sim n m s s') (k : Sim n m s' s'') : Sim n m s s'' := fun G0 w0 G a w hR => by
  obtain ⟨G', h'⟩ := h G0 w0 G a w hR
  exact k G0 w0 G' a w h'
theorem Sim.of_le {n m : Nat} {s : ASt} {l : List (Nat × AVal)} {H : List (List AVal)} (h : Le m s l H) : Sim n m s ⟨look l, H⟩ := fun _ _ G _ _ hR => ⟨G, hR.weaken h.st⟩
theorem Sim.of_frzS {n m : Nat} {s : ASt} (l : List (Nat × Nat × Bool)) : Sim n m s (frzS l s) := fun _ _ G _ _ hR => hR.frzS l s G
theorem SWp.sim {P : Program} {n m : Nat} {c : Code} {Q : APost} {s s' : ASt} (h : Sim n m s s') (k : SWp P n m c Q s') : SWp P n m c Q s := by
  intro ρ hρ kk G0 w0 G a w hR
  obtain ⟨G', hR'⟩ := h G0 w0 G a w hR
  exact k ρ hρ kk G0 w0 G' a w hR'

/-- The end of a round, for a loop that is told by a predicate. -/
def LoopPostP (n m : Nat) (Inv : Nat → ASt → Prop) (μ : Nat) (Q : APost) : APost
  | .normal, s => ∃ s' j, Sim n m s s' ∧ j < μ ∧ Inv j s'
  | e, s => Q e s
theorem LoopK.introP {P : Program} {tr : List Nat} {n m : Nat} {body : Code} {Q : APost} {s : ASt} (hmx : P.follows .mixedOrders = true) (hg : good tr n body = true) (Inv : Nat → ASt → Prop) (μ0 : Nat) {s0 : ASt} (hs : Sim n m s s0)
    (h0 : Inv μ0 s0) (hround : ∀ μ s, Inv μ s → awp P tr n m body (LoopPostP n m Inv μ Q) s) : LoopK P n m body Q s := by
  intro ρ hρ kk G0 w0 G a w hR
  obtain ⟨G1, hR1⟩ := hs G0 w0 G a w hR
  refine wpIn_loop_ix (fun k a w => ∃ s G, Inv k s ∧ R n m G0 w0 s G a w) μ0 ⟨s0, G1, h0, hR1⟩ ?_
  rintro k a w ⟨s, G, hi, hR⟩
  refine wpIn_mono (awp_sound hmx body _ _ hg (hround k s hi) ρ hρ kk G0 w0 G a w hR) ?_
  intro e a' w' he
  cases e with
  | normal =>
    obtain ⟨s', G', hR', s2, j, h2, hlt, hj⟩ := he
    obtain ⟨G2, hR2⟩ := h2 G0 w0 G' a' w' hR'
    exact ⟨j, hlt, s2, G2, hj, hR2⟩
  | exit id => exact he
  | ret => exact he
  | goto l => exact he
  | panic c => exact he
  | outgrown => exact he
theorem SWp_seq {P : Program} {n m : Nat} {a b : Code} {Q : APost} {s : ASt} (K : ASt → Prop) (h : SWp P n m a (thenK K Q) s) (hab : hasRange b = true → hasRange a = true ∨ True) (k : ∀ s', K s' → SWp P n m b Q s') : SWp P n m (.seq a b) Q s := by
  intro ρ hρ kk G0 w0 G x w hR
  have e1 : hasRange (.seq a b) = (hasRange a || hasRange b) := rfl
  refine wpIn_seq (wpIn_mono (h ρ (fun e => hρ (by rw [e1, e]; rfl)) kk G0 w0 G x w hR) ?_)
  intro e a' w' he
  cases e with
  | normal => obtain ⟨s', G', hR', hk⟩ := he; exact k s' hk ρ (fun e => hρ (by rw [e1, e, Bool.or_true])) kk G0 w0 G' a' w' hR'
  | exit id => exact he
  | ret => exact he
  | goto l => exact he
  | panic c => exact he
  | outgrown => exact he

/-- A contract whose result and variables are told by a predicate. -/
def CFunP (P : Program) (f : FuncId) (args : List AVal) (H : List (List AVal)) (Q : AVal → List (List AVal) → Prop) : Prop :=
  Enterable P f ∧ ∀ (G : Gh) (w : World) (cargs : Array Value), SR G H w → (∀ b i, G.K b ≠ some (.tmp i)) → (∀ b, G.K b ≠ some .ret) → cargs.size = args.length →
    (∀ (i : Nat) (y : AVal) (v : Value), args[i]? = some y → cargs[i]? = some v → Rep H.length G.r G.F y v) → Calls P f cargs w (fun e w' => ∃ x H', Q x H' ∧ CPost G w H x H' e w')
theorem CFunP.toFun {P : Program} {f : FuncId} {args : List AVal} {H : List (List AVal)} {x : AVal} {H' : List (List AVal)} (h : CFunP P f args H fun y K => y = x ∧ K = H') : CFun P f args H x H' := by
  refine ⟨h.1, fun G w cargs h1 h2 h3 h4 h5 => (h.2 G w cargs h1 h2 h3 h4 h5).mono ?_⟩
  rintro e w' ⟨y, K, ⟨rfl, rfl⟩, h6⟩
  exact h6
theorem CFun.toP {P : Program} {f : FuncId} {args : List AVal} {H : List (List AVal)} {x : AVal} {H' : List (List AVal)} (h : CFun P f args H x H') : CFunP P f args H fun y K => y = x ∧ K = H' :=
  ⟨h.1, fun G w cargs h1 h2 h3 h4 h5 => (h.2 G w cargs h1 h2 h3 h4 h5).mono fun e w' h6 => ⟨x, H', ⟨rfl, rfl⟩, h6⟩⟩
theorem CFunP.mono {P : Program} {f : FuncId} {args : List AVal} {H : List (List AVal)} {Q Q' : AVal → List (List AVal) → Prop} (h : CFunP P f args H Q) (hq : ∀ x H', Q x H' → Q' x H') : CFunP P f args H Q' :=
  ⟨h.1, fun G w cargs h1 h2 h3 h4 h5 => (h.2 G w cargs h1 h2 h3 h4 h5).mono fun e w' ⟨x, H', h6, h7⟩ => ⟨x, H', hq x H' h6, h7⟩⟩

section
variable {P : Program} {n m : Nat} {G0 : Gh} {w0 : World} {s : ASt} {G : Gh} {a : Act} {w : World}
theorem R.leaveP (h : R n m G0 w0 s G a w) {r : Option Nat} {x : AVal} {v : Value} {H0 : List (List AVal)} (hm : m = H0.length) (hx : Rep s.H.length G.r G.F x v)
    (ho : OwnAt (G.ret r) w .ret x v) : CPost G0 w0 H0 x s.H (.returned v) w := by
  subst hm
  have notmp : ∀ b, (∀ i, G.K b ≠ some (.tmp i)) → (G.ret r).K b = G.K b := by
    intro b hb
    unfold Gh.ret
    simp only
  refine ⟨v, G.ret r, rfl, ⟨h.ext.os, h.ext.tape, h.ext.output, h.ext.size, h.ext.rho, h.ext.mono, fun b hb ht => ?_⟩, ?_, hx, ho, fun b i e => ?_, h.hm⟩
  · obtain ⟨e1, e2, e3⟩ := h.ext.old b hb ht
    exact ⟨e1, by rw [notmp b (fun i => by rw [e2]; exact h.clean b i)]; exact e2, e3⟩
  · have h0 := h.sr
    refine ⟨h0.frz, fun id cs hid hne => ?_, fun b hb => ?_⟩
    · obtain ⟨c, T, h1, h2, h3, h4, h5⟩ := h0.box id cs hid hne
      refine ⟨c, T, h1, h2, ?_, h4, fun j x v hx hv => ⟨(h5 j x v hx hv).1, fun k xs ad len cap f1 f2 f3 => ?_⟩⟩
      · show (G.ret r).K (G.r id).1 = _
        rw [notmp _ (fun i e => by rw [h3] at e; cases e)]
        exact h3
      · obtain ⟨q1, q2⟩ := (h5 j x v hx hv).2 k xs ad len cap f1 f2 f3
        exact ⟨by rw [notmp _ (fun i e => by rw [q1] at e; cases e)]; exact q1, q2⟩
    · rw [notmp b (fun i e => by rw [h.sr.new b hb] at e; cases e)]
      exact h.sr.new b hb
  · have : (match G.K b with | some (.tmp i) => if some i = r then some Pos.ret else some .far | x => x) = some (.tmp i) := e
    split at this
    · split at this <;> cases this
    · rename_i e1; exact e1 _ this
end
/-- The post of a body, for such a contract. -/
def retP (P : Program) (n m : Nat) (rs : List ResultVar) (Q : AVal → List (List AVal) → Prop) : APost
  | .normal, s => ∃ s' y, Sim n m s s' ∧ ares P rs s' = some y ∧ Q y s'.H
  | .ret, s => ∃ s' y, Sim n m s s' ∧ ares P rs s' = some y ∧ Q y s'.H
  | .exit _, _ => False
theorem CFunP.intro {P : Program} {f : FuncId} {fn : Func} {c : Code} {rs : List ResultVar} {n : Nat} {args : List AVal} {H : List (List AVal)} {Q : AVal → List (List AVal) → Prop} (hf : P.funcs[f]? = some fn) (hb : fn.body = some c)
    (hname : (fn.name == "runtime.NumGoroutine") = false) (hrs : fn.results = rs.toArray) (hnt : fn.ntmps = n) (hn : args.length ≤ n) (ho : args.all (fun x => !x.isOwn) = true)
    (h : SWp P n H.length c (retP P n H.length rs Q) ⟨argT args, H⟩) : CFunP P f args H Q := by
  refine ⟨⟨fn, hf, hname, by rw [hb]; rfl⟩, fun G w cargs hs hc _ hz hr => ?_⟩
  refine callsIn_wide.1 (callsIn_of_wp_marks (F := Fence.wide) (n := 1) hf hb trivial ?_)
  subst hnt
  have hR := R.start (n := fn.ntmps) hs hc hz hn ho hr
  refine wpIn_mono (h none (fun _ => rfl) 1 G w G _ w hR) ?_
  have fin : ∀ (a' : Act) (w' : World) (s : ASt) (G' : Gh), R fn.ntmps H.length G w s G' a' w' → (∃ s' y, Sim fn.ntmps H.length s s' ∧ ares P rs s' = some y ∧ Q y s'.H) → LeavesInM Fence.wide 1 P fn a'.tmps (fun e w' => ∃ x H', Q x H' ∧ CPost G w H x H' e w') a'.defers .returning w' := by
    rintro a' w' s G' hR' ⟨s', y, hsim, hy, hq⟩
    obtain ⟨G2, hR2⟩ := hsim _ _ _ _ _ hR'
    refine R.leaves _ _ hR2 fun w' hR' => ?_
    obtain ⟨v, r, q1, q2, q3⟩ := results_run (P := P) fn rs hrs hR' hy
    exact ⟨v, q1, y, s'.H, hq, hR'.leaveP rfl q2 q3⟩
  intro e a' w' he
  cases e with
  | normal => obtain ⟨s, G', hR', hk⟩ := he; exact fin a' w' _ G' hR' hk
  | ret => obtain ⟨s, G', hR', hk⟩ := he; exact fin a' w' _ G' hR' hk
  | exit id => obtain ⟨s, G', hR', hk⟩ := he; exact hk.elim
  | goto l => exact he
  | panic ch => exact he.elim
  | outgrown => exact he.elim

section
variable {P : Program} {n m : Nat} {G0 : Gh} {w0 : World} {s : ASt} {G : Gh} {a : Act} {w : World} {ρ : Option Nat} {kk : Nat}
theorem call_soundP (h : R n m G0 w0 s G a w) {o : Oper} (hd : ∀ i : Nat, o.dst = some i → i < n) {c : Call} (hop : o.op = .call c) {fo : Operand} (hc : c.callee = .value fo) {f : FuncId} {fs cs : List AVal}
    (hf : av s.t fo = .fn f fs cs) {Qp : AVal → List (List AVal) → Prop} (hcf : CFunP P f (cargs s fs c.args.toList cs) s.H Qp) {K : Act → World → Prop} {Q : Exit → Act → World → Prop}
    (hK : ∀ x H', Qp x H' → ∀ a' w' G', R n m G0 w0 ⟨(s.put o.dst x).t, H'⟩ G' a' w' → K a' w') : o.wpIn (WR ρ) kk P a w K Q := by
  have hg := h.get fo
  rw [hf] at hg
  have hfv : ∃ fs' cs', a.eval fo = .func (.func f) fs' cs' ∧ fs'.size = fs.length ∧ cs'.size = cs.length ∧ (∀ (i : Nat) (x : AVal) (v : Value), fs[i]? = some x → fs'[i]? = some v → Rep s.H.length G.r G.F x v) ∧
      (∀ (i : Nat) (x : AVal) (v : Value), cs[i]? = some x → cs'[i]? = some v → Rep s.H.length G.r G.F x v) := by
    generalize a.eval fo = v at hg
    cases hg with
    | fn _ _ _ fs' cs' e1 e2 e3 e4 => exact ⟨fs', cs', rfl, e1, e2, e3, e4⟩
    | tree _ _ ht => cases ht
  obtain ⟨fs', cs', e0, e1, e2, e3, e4⟩ := hfv
  have hargs : ∀ (i : Nat) (y : AVal) (v : Value), (cargs s fs c.args.toList cs)[i]? = some y → (fs' ++ c.args.map a.eval ++ cs')[i]? = some v → Rep s.H.length G.r G.F y v := by
    intro i y v hy hv
    have hv' : (fs'.toList ++ c.args.toList.map a.eval ++ cs'.toList)[i]? = some v := by
      have : (fs' ++ c.args.map a.eval ++ cs').toList[i]? = some v := by rw [Array.getElem?_toList]; exact hv
      rw [Array.toList_append, Array.toList_append, Array.toList_map] at this
      exact this
    unfold cargs at hy
    have l1 : fs'.toList.length = fs.length := by simpa using e1
    by_cases h1 : i < fs.length
    · rw [List.append_assoc, List.getElem?_append_left h1] at hy
      rw [List.append_assoc, List.getElem?_append_left (by omega)] at hv'
      exact e3 i y v hy (by simpa using hv')
    · rw [List.append_assoc, List.getElem?_append_right (by omega)] at hy
      rw [List.append_assoc, List.getElem?_append_right (by omega), l1] at hv'
      by_cases h2 : i - fs.length < c.args.toList.length
      · rw [List.getElem?_append_left (by simpa using h2)] at hy hv'
        obtain ⟨o', _, f1, f2⟩ := map_get hy hv'
        subst f1 f2
        exact (h.get o').dis
      · rw [List.getElem?_append_right (by simp at h2 ⊢; omega)] at hy hv'
        simp only [List.length_map] at hy hv'
        exact e4 _ y v hy (by simpa using hv')
  have hsz : (fs' ++ c.args.map a.eval ++ cs').size = (cargs s fs c.args.toList cs).length := by simp [cargs, e1, e2]
  obtain ⟨⟨fn, hfn, hname, hbody⟩, hcall⟩ := hcf
  have hrun : (execOp a.eval o).run P w = .ok (.enter f (fs' ++ c.args.map a.eval ++ cs')) w := by
    have h1 : ¬ fn.name = "runtime.NumGoroutine" := by simpa using hname
    have h2 : ¬ fn.body = none := by intro e; rw [e] at hbody; cases hbody
    simp [execOp, hop, resolve, hc, e0, Deferred.ofValue, invoke, callFunc, hfn, h1, h2]
  refine ⟨fun f _ => trivial, ?_⟩
  rw [Oper.semAt_eq _ _ _ (by rw [hop]; simp), hrun, Oper.uponIn_enter]
  refine ⟨wr_depth, Calls.wr ?_ ρ _⟩
  refine (hcall G.away w (fs' ++ c.args.map a.eval ++ cs') h.sr.away ?_ ?_ ?_ ?_).mono ?_
  · intro b i e
    have : (match G.K b with | some (.tmp _) => some Pos.far | some .ret => some .far | x => x) = some (.tmp i) := e
    split at this <;> first | (cases this; done) | (rename_i e1 e2; exact (e1 _ this))
  · intro b e
    have : (match G.K b with | some (.tmp _) => some Pos.far | some .ret => some .far | x => x) = some .ret := e
    split at this <;> first | (cases this; done) | (rename_i e1 e2; exact e2 this)
  · exact hsz
  · exact hargs
  · rintro e w' ⟨x, H', hq, v, G', rfl, g1, g2, g3, g4, g5, g6⟩
    exact hK x H' hq _ _ _ (call_back h o.dst hd g1 g2 g3 g4 g6)

/-- A closed region of three operations, the second a call whose contract is told by a predicate. -/
theorem SWp_call3 {tr : List Nat} {id : Nat} {o0 o1 o2 : Oper} {Q : APost} {c : Call} {fo : Operand} (hd : dstsOk n [o0, o1, o2] = true) (hg1 : o1.guard = none) (hop : o1.op = .call c) (hcv : c.callee = .value fo)
    (h : awpOps P tr none #[o0, o1, o2] [o0] (fun s1 => ∃ f fs cs Qp, av s1.t fo = .fn f fs cs ∧ CFunP P f (cargs s1 fs c.args.toList cs) s1.H Qp ∧
      ∀ x H', Qp x H' → awpOps P tr none #[o0, o1, o2] [o2] (Q .normal) ⟨(s1.put o1.dst x).t, H'⟩) s) : SWp P n m (.region id #[o0, o1, o2] false) Q s := by
  intro ρ hρ kk G0 w0 G a w hR
  refine wpIn_region ?_
  have hrg : List.range (#[o0, o1, o2] : Array Oper).size = [0, 1, 2] := rfl
  rw [hrg]
  obtain ⟨s1, hr1, f, fs, cs, Qp, hf, hcf, hq⟩ := awpOps_run _ _ _ h
  obtain ⟨s1', h1, rfl⟩ := hr1
  rw [wpOpsIn_cons]
  refine step1_sound (d := none) (fun _ _ _ h => h) hR (i := 0) (o := o0) rfl (dstsOk_get hd (by simp)) h1 (fun a1 w1 G1 hR1 => ?_)
  rw [wpOpsIn_cons]
  unfold wpOpIn
  have e1 : (#[o0, o1, o2] : Array Oper)[1]? = some o1 := rfl
  rw [e1]
  simp only
  have hw : Region.wanted o1 (yielded #[o0, o1, o2] a1.tmps) = true := by simp [Region.wanted, hg1]
  rw [if_pos hw]
  refine call_soundP hR1 (dstsOk_get hd (by simp)) hop hcv hf hcf (fun x H' hx a2 w2 G2 hR2 => ?_)
  obtain ⟨s3, hr3, hk3⟩ := awpOps_run _ _ _ (hq x H' hx)
  obtain ⟨s3', h3, rfl⟩ := hr3
  rw [wpOpsIn_cons]
  refine step1_sound (d := none) (fun _ _ _ h => h) hR2 (i := 2) (o := o2) rfl (dstsOk_get hd (by simp)) h3 (fun a3 w3 G3 hR3 => ?_)
  exact ⟨_, G3, hR3, hk3⟩
end
end Go.Am
