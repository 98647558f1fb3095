/- The abstract machine, part thirty-five: ranges over functions whose variables are known by their numbers alone. -/
import Derived.Test.YthonenmafbpbkaaBmAH
namespace Go.Am
open Go

/-- What is known of the variables after it may be known instead. -/
def LeW (H H' : List (List AVal)) : Prop := ∀ (G : Gh) (w : World), SR G H w → SR G H' w
theorem LeW.refl (H : List (List AVal)) : LeW H H := fun _ _ h => h
section
variable {P : Program} {n m : Nat} {G0 : Gh} {w0 : World} {s : ASt} {G : Gh} {a : Act} {w : World}
theorem R.leaveW (h : R n m G0 w0 s G a w) {r : Option Nat} {x : AVal} {v : Value} {H0 H' : List (List AVal)} (hm : m = H0.length) (hx : Rep H'.length G.r G.F x v)
    (ho : OwnAt (G.ret r) w .ret x v) (hle : m ≤ H'.length) (hb : LeW s.H H') : CPost G0 w0 H0 x H' (.returned v) w := by
  subst hm
  have notmp : ∀ b, (∀ i, G.K b ≠ some (.tmp i)) → (G.ret r).K b = G.K b := by
    intro b hb
    unfold Gh.ret
    simp only
  refine ⟨v, G.ret r, rfl, ⟨h.ext.os, h.ext.tape, h.ext.output, h.ext.size, h.ext.rho, h.ext.mono, fun b hb ht => ?_⟩, ?_, hx, ho, fun b i e => ?_, hle⟩
  · obtain ⟨e1, e2, e3⟩ := h.ext.old b hb ht
    exact ⟨e1, by rw [notmp b (fun i => by rw [e2]; exact h.clean b i)]; exact e2, e3⟩
  · have h0 := hb _ _ h.sr
    refine ⟨h0.frz, fun id cs hid hne => ?_, fun b hb => ?_⟩
    · obtain ⟨c, T, h1, h2, h3, h4, h5⟩ := h0.box id cs hid hne
      refine ⟨c, T, h1, h2, ?_, h4, fun j x v hx hv => ⟨(h5 j x v hx hv).1, fun k xs ad len cap f1 f2 f3 => ?_⟩⟩
      · show (G.ret r).K (G.r id).1 = _
        rw [notmp _ (fun i e => by rw [h3] at e; cases e)]
        exact h3
      · obtain ⟨q1, q2⟩ := (h5 j x v hx hv).2 k xs ad len cap f1 f2 f3
        exact ⟨by rw [notmp _ (fun i e => by rw [q1] at e; cases e)]; exact q1, q2⟩
    · rw [notmp b (fun i e => by rw [h.sr.new b hb] at e; cases e)]
      exact h.sr.new b hb
  · have : (match G.K b with | some (.tmp i) => if some i = r then some Pos.ret else some .far | x => x) = some (.tmp i) := e
    split at this
    · split at this <;> cases this
    · rename_i e1; exact e1 _ this
end
def roundPostW {ι : Type} (m : Nat) (t : Nat → AVal) (Hs : ι → List (List AVal)) (Inv : Nat → ι → Prop) (j : Nat) (Q : APost) : APost
  | .normal, s => ∃ i, Inv (j + 1) i ∧ LeW s.H (Hs i)
  | e, s => ∃ H', m ≤ H'.length ∧ LeW s.H H' ∧ Q e ⟨t, H'⟩
theorem RangeK.introSW {P : Program} {n m : Nat} {g : Operand} {p : Nat} {asg body : Code} {Q : APost} {s : ASt} (hra : hasRange asg = false) (hrb : hasRange body = false) (hp : p < n)
    {gf c k : Nat} (hit : IterP P gf c k) (hen : Enterable P gf) {idb len : Nat} (hl9 : len < 9223372036854775807) (hgv : av s.t g = .fn gf [] [.ptr idb 0]) (el : Nat → AVal) (Fam : List (List AVal) → Prop) (hid : idb < s.H.length) (hsrc : SrcOk idb c k len el Fam)
    {ι : Type} (Hs : ι → List (List AVal)) (Inv : Nat → ι → Prop) (i0 : ι) (h0 : Inv 0 i0) (hle : LeW s.H (Hs i0))
    (hfam : ∀ j i, Inv j i → s.H.length ≤ (Hs i).length ∧ Fam (Hs i))
    (hround : ∀ j i, Inv j i → j < len → SWp P n s.H.length asg (asgPost (SWp P n s.H.length body (roundPostW s.H.length s.t Hs Inv j Q))) ⟨fun q => if q = p then el j else (s.t q).dis, Hs i⟩)
    (hdone : ∀ i, Inv len i → Q .normal ⟨s.t, Hs i⟩) : RangeK P n m g #[p] asg body Q s := by
  intro ρ hρ kk G0 w0 G a w hR
  obtain rfl : ρ = none := hρ rfl
  -- the iterator's value
  have hg := hR.get g
  rw [hgv] at hg
  have hev : a.eval g = .func (.func gf) #[] #[.pointer (some ⟨(G.r idb).1, 0, none⟩)] := by
    generalize a.eval g = v at hg
    cases hg with
    | tree _ _ ht => cases ht
    | fn _ _ _ fs' cs' e1 e2 e3 e4 =>
      rw [Array.size_eq_zero_iff.1 e1]
      have e2 : cs'.size = 1 := e2
      obtain ⟨v, hv⟩ : ∃ v, cs' = #[v] := by
        refine ⟨cs'[0], ?_⟩
        apply Array.ext
        · simpa using e2
        · intro i h1 h2
          obtain rfl : i = 0 := by simp at h2; omega
          rfl
      subst hv
      have := e4 0 _ v rfl rfl
      cases this with
      | ptr _ _ _ => rfl
      | tree _ _ ht => cases ht
  obtain ⟨gfn, hgf, hname, hbody⟩ := hen
  -- the round's invariant
  obtain ⟨rec, hrec⟩ : ∃ rec : FuncId → LoopState → Option Code → Loop, rec = fun fn st pe => { state := st, pending := pe, fn, tmps := a.tmps, params := #[p], assign := asg, body, defers := w.heap.size } := ⟨_, rfl⟩
  let M := s.H.length
  let S : List (List AVal) → World → Prop := fun H W => ∃ Gj : Gh, (∀ b i, Gj.K b ≠ some (.tmp i)) ∧ Ext M G.away.Tch G.away w Gj W ∧ SR Gj H W ∧ NC w.heap.size Gj W
  have Sgrown : ∀ (H : List (List AVal)) (W W' : World) (row : Option Nat), S H W → W.grownBy W' row → (∀ r, row = some r → w.heap.size ≤ r ∧ ∃ o : Obj, W.heap[r]? = some o ∧ o.isCells = false) → S H W' := by
    rintro H W W' row ⟨Gj, c1, c2, c3, c4⟩ hg hr
    exact ⟨Gj, c1, c2.grown hg (Nat.le_refl _) (fun r e => (hr r e).1), c3.grown hg (fun r e => (hr r e).2), c4.grown c3 hg (fun r e => (hr r e).2)⟩
  have hS0 : S (Hs i0) w := by
    have hclean : ∀ b i, G.away.K b ≠ some (.tmp i) := by
      intro b i e
      have : (match G.K b with | some (.tmp _) => some Pos.far | some .ret => some .far | x => x) = some (.tmp i) := e
      split at this <;> first | (cases this; done) | (rename_i e1 e2; exact (e1 _ this))
    have hsr : SR G.away (Hs i0) w := hle _ _ hR.sr.away
    exact ⟨G.away.norm w.heap.size w, norm_clean hclean, (Ext.refl M G.away.Tch G.away w).norm, hsr.norm _, NC.norm _ _ _⟩
  have hrb' : ∀ Gj W, Ext M G.away.Tch G.away w Gj W → (Gj.r idb).1 = (G.r idb).1 := fun Gj W h => by rw [h.rho idb hid]; rfl
  -- the statement
  refine wpIn_wr (k := 2) ?_
  refine wpIn_rangeFunc (F := Fence.wide) (n := 2) fun fn _ => ?_
  obtain ⟨W1, hW1⟩ : ∃ W1, (w.alloc (.deferred (some []))).alloc (.loop (rec fn .ready none)) = W1 := ⟨_, rfl⟩
  have hL1 : W1.heap[w.heap.size + 1]? = some (.loop (rec fn .ready none)) := by
    rw [← hW1]; have := World.alloc_heap_new (w.alloc (.deferred (some []))) (.loop (rec fn .ready none)); rwa [World.size_alloc] at this
  have hK1 : W1.heap[w.heap.size]? = some (.deferred (some [])) := by
    rw [← hW1]; exact (alloc_old _ _ (by simp)).trans (World.alloc_heap_new w _)
  have hg1 : w.grownBy W1 none := by
    rw [← hW1]
    refine ⟨rfl, rfl, rfl, by simp; omega, fun b hb _ => ?_⟩
    rw [alloc_old _ _ (by simp; omega), alloc_old _ _ hb]
  have hS1 : S (Hs i0) W1 := Sgrown _ _ _ none hS0 hg1 (fun r e => by cases e)
  have hcf : ∀ args W, (callFunc gf args).run P W = .ok (.enter gf args) W := fun args W => by
    have e1 : ¬ gfn.name = "runtime.NumGoroutine" := by simpa using hname
    have e2 : ¬ gfn.body = none := by intro e; rw [e] at hbody; cases hbody
    simp [callFunc, hgf, e1, e2]
  refine ⟨w.heap.size + 1, [{ target := .collected w.heap.size, args := #[] }], W1, { target := .fn (.func gf) #[.pointer (some ⟨(G.r idb).1, 0, none⟩)], args := #[.func (.yield (w.heap.size + 1)) #[] #[]] }, W1, gf,
    #[.func (.yield (w.heap.size + 1)) #[] #[], .pointer (some ⟨(G.r idb).1, 0, none⟩)], W1, ?_, ?_, fun _ _ => trivial, ?_, fun h => (by cases h), ?_⟩
  · rw [← hW1, hrec]; exact run_enterLoop_outer _ _ _ _ _
  · simp only [resolve, hev]
    simp [go_sem]
  · simp [invoke, go_sem, hcf]
  refine (callsIn_wide (n := 1)).2 ?_
  let Rdy : World → Prop := fun W => W.heap[w.heap.size + 1]? = some (.loop (rec fn .ready none)) ∧ W.heap[w.heap.size]? = some (.deferred (some []))
  have Sblk : ∀ (Gj : Gh) (H H' : List (List AVal)) (x : ASt) (Gx : Gh) (ax : Act) (W W' : World), NC w.heap.size Gj W → R n M Gj W x Gx ax W' → ∀ (b : Nat) (o : Obj), w.heap.size ≤ b → W.heap[b]? = some o → o.isCells = false → W'.heap[b]? = some o := by
    intro Gj H H' x Gx ax W W' hnc hx b o hb ho hn
    exact (hx.ext.old b (Array.getElem?_eq_some_iff.1 ho).1 (hnc b o hb ho hn)).1.trans ho
  refine (hit (G.r idb).1 len (w.heap.size + 1)
    (fun j W => (∃ i, Inv j i ∧ S (Hs i) W) ∧ Rdy W)
    (fun W => ∃ (jump : Code) (e : AEx) (H' : List (List AVal)), (e = .ret ∧ jump = .ret ∨ ∃ id, e = .exit id ∧ jump = .exit id) ∧ M ≤ H'.length ∧ Q e ⟨s.t, H'⟩ ∧ S H' W ∧ W.heap[w.heap.size + 1]? = some (.loop (rec fn .done (some jump))) ∧ W.heap[w.heap.size]? = some (.deferred (some [])))
    W1 hl9 ?_ ?_ ?_ ?_ ⟨⟨i0, h0, hS1⟩, hL1, hK1⟩).mono ?_
  · rintro j W ⟨⟨i, hi, Gj, c1, c2, c3, c4⟩, _⟩
    obtain ⟨b, p, ad, cap, z1, _⟩ := hsrc Gj W (Hs i) c3 (hfam j i hi).2
    rw [hrb' Gj W c2] at z1
    exact ⟨b, p, ad, cap, z1⟩
  · rintro j W W' ⟨⟨i, hi, hS⟩, r1, r2⟩ hg
    exact ⟨⟨i, hi, Sgrown _ _ _ none hS hg (fun r e => by cases e)⟩, (hg.block _ (Array.getElem?_eq_some_iff.1 r1).1 (by simp)).trans r1, (hg.block _ (Array.getElem?_eq_some_iff.1 r2).1 (by simp)).trans r2⟩
  · rintro W W' ⟨jump, e, H', h1, h2, h3, hS, r1, r2⟩ hg
    exact ⟨jump, e, H', h1, h2, h3, Sgrown _ _ _ none hS hg (fun r e => by cases e), (hg.block _ (Array.getElem?_eq_some_iff.1 r1).1 (by simp)).trans r1, (hg.block _ (Array.getElem?_eq_some_iff.1 r2).1 (by simp)).trans r2⟩
  · -- one round
    rintro j W b0 p0 a2 cap0 ⟨⟨i, hi, Gj, c1, c2, c3, c4⟩, r1, r2⟩ hj hh
    obtain ⟨f1, f2⟩ := hfam j i hi
    obtain ⟨b9, p9, ad9, cap9, z1, z2⟩ := hsrc Gj W (Hs i) c3 f2
    rw [hrb' Gj W c2] at z1
    have ead : ad9 = some a2 := by
      have e1 := hh.1.symm.trans z1.1
      injection e1 with e1
      injection e1 with e1
      injection e1 with e1
      injection e1 with e1 e2
      subst e1 e2
      have e3 := hh.2.1.symm.trans z1.2.1
      injection e3 with e3
      injection e3 with e3
      exact e3.symm
    have z3 := z2 a2 ead
    have hy := run_yield (P := P) (args := #[.pointer (some ⟨a2.block, a2.off + j * k, none⟩)]) r1 (by rw [hrec]; rfl)
    refine ⟨fn, a.tmps.setIfInBounds p (.pointer (some ⟨a2.block, a2.off + j * k, none⟩)), asg, body, by rw [hy, hrec]; simp, roundIn_of_wpIn trivial ?_⟩
    have hstart : R n M Gj W ⟨fun q => if q = p then el j else (s.t q).dis, Hs i⟩ Gj { tmps := a.tmps.setIfInBounds p (.pointer (some ⟨a2.block, a2.off + j * k, none⟩)), defers := [] } W := by
      refine ⟨by simpa using hR.sz, fun q hq => ?_, Dfr.nil _ _ _, c1, Ext.refl _ _ _ _, f1, c3, fun q v hv => ?_⟩
      · show (if q = p then el j else (s.t q).dis) = .undef
        rw [if_neg (by omega), hR.out q hq]; rfl
      · simp only [Array.getElem?_setIfInBounds] at hv
        show Rep (Hs i).length Gj.r Gj.F (if q = p then el j else (s.t q).dis) v ∧ OwnAt Gj W (.tmp q) (if q = p then el j else (s.t q).dis) v
        by_cases e : p = q
        · subst e
          have hlt : p < a.tmps.size := by rw [hR.sz]; exact hp
          simp only [if_true, hlt, Option.some.injEq] at hv
          subst hv
          rw [if_pos rfl]
          exact ⟨(z3 j hj).1, OwnAt.of_not (z3 j hj).2⟩
        · rw [if_neg e] at hv
          rw [if_neg (fun e2 => e e2.symm)]
          exact ⟨((hR.tmp q v hv).1.dis).mono f1 (fun i hi => by rw [c2.rho i hi]; rfl) c2.mono, OwnAt.of_not (isOwn_dis _)⟩
    have ha := (hround j i hi hj) (some (w.heap.size + 1)) (fun e => by rw [hra] at e; cases e) 0 Gj W Gj _ W hstart
    refine wpIn_mono (wpIn_wr ha) ?_
    intro e a' W' he
    cases e with
    | normal =>
      obtain ⟨s', G', hR', hbody'⟩ := he
      have hl' := Sblk Gj [] [] _ _ _ _ _ c4 hR' _ _ (by omega) r1 rfl
      have hk' := Sblk Gj [] [] _ _ _ _ _ c4 hR' _ _ (Nat.le_refl _) r2 rfl
      have hlW := (Array.getElem?_eq_some_iff.1 r1).1
      have hR2 := hR'.putBoth (.loop { rec fn .ready none with state := .busy }) hl' rfl (by simp) hlW
      refine ⟨_, run_beginRound hl' (by rw [hrec]), ?_⟩
      have hb := hbody' (some (w.heap.size + 1)) (fun e => by rw [hrb] at e; cases e) 0 _ _ _ _ _ hR2
      refine wpIn_mono (wpIn_wr hb) ?_
      -- behind the body
      have fin : ∀ (jump : Option Code) (s3 : ASt) (G3 : Gh) (a3 : Act) (W3 : World) (H3 : List (List AVal)), R n M Gj (W.putObj (w.heap.size + 1) (.loop { rec fn .ready none with state := .busy })) s3 G3 a3 W3 → M ≤ H3.length → LeW s3.H H3 →
          (Instr.endRound (w.heap.size + 1) jump).run P W3 = .ok (.bool jump.isNone) (W3.putObj (w.heap.size + 1) (.loop (rec fn (if jump.isNone then .ready else .done) jump))) ∧
          S H3 (W3.putObj (w.heap.size + 1) (.loop (rec fn (if jump.isNone then .ready else .done) jump))) ∧
          (W3.putObj (w.heap.size + 1) (.loop (rec fn (if jump.isNone then .ready else .done) jump))).heap[w.heap.size + 1]? = some (.loop (rec fn (if jump.isNone then .ready else .done) jump)) ∧
          (W3.putObj (w.heap.size + 1) (.loop (rec fn (if jump.isNone then .ready else .done) jump))).heap[w.heap.size]? = some (.deferred (some [])) := by
        intro jump s3 G3 a3 W3 H3 hR3 hM3 hlb3
        have hwl : (W.putObj (w.heap.size + 1) (.loop { rec fn .ready none with state := .busy })).heap[w.heap.size + 1]? = some (.loop { rec fn .ready none with state := .busy }) := World.putObj_heap_same hlW
        have hwk : (W.putObj (w.heap.size + 1) (.loop { rec fn .ready none with state := .busy })).heap[w.heap.size]? = some (.deferred (some [])) := (World.putObj_heap_other (by omega)).trans r2
        have hgp := grownBy_putObj' W (w.heap.size + 1) (.loop { rec fn .ready none with state := .busy })
        have hgr : ∀ r, some (w.heap.size + 1) = some r → ∃ o : Obj, W.heap[r]? = some o ∧ o.isCells = false := fun r e => by injection e with e; subst e; exact ⟨_, r1, rfl⟩
        have c4' := c4.grown c3 hgp hgr
        have hl3 := Sblk Gj [] [] _ _ _ _ _ c4' hR3 _ _ (by omega) hwl rfl
        have hk3 := Sblk Gj [] [] _ _ _ _ _ c4' hR3 _ _ (Nat.le_refl _) hwk rfl
        obtain ⟨v, Gr, _, d1, d2, _, _, d5, _⟩ := hR3.leaveW (r := none) (x := .undef) (v := .bool true) (H0 := s.H) (H' := H3) rfl (.undef _) (OwnAt.of_not rfl) hM3 hlb3
        have hrun := run_endRound (P := P) jump hl3
        rw [hrec] at hrun ⊢
        refine ⟨hrun, ?_, World.putObj_heap_same (Array.getElem?_eq_some_iff.1 hl3).1, (World.putObj_heap_other (by omega)).trans hk3⟩
        have hx : Ext M G.away.Tch G.away w Gr W3 := (c2.grown hgp (Nat.le_refl _) (fun r e => by injection e with e; omega)).callTrans d1
        have hS3 : S H3 W3 := ⟨Gr.norm w.heap.size W3, norm_clean d5, hx.norm, d2.norm _, NC.norm _ _ _⟩
        refine Sgrown _ _ _ (some (w.heap.size + 1)) hS3 (grownBy_putObj' _ _ _) (fun r e => ?_)
        injection e with e
        subst e
        exact ⟨by omega, _, hl3, rfl⟩
      intro e3 a3 W3 he3
      cases e3 with
      | normal =>
        obtain ⟨s3, G3, hR3, i', hi', hlb3⟩ := he3
        obtain ⟨q1, q2, q3, q4⟩ := fin none s3 G3 a3 W3 (Hs i') hR3 (hfam _ i' hi').1 hlb3
        exact ⟨_, _, q1, .inl ⟨rfl, ⟨i', hi', q2⟩, q3, q4⟩⟩
      | ret =>
        obtain ⟨s3, G3, hR3, H', hM', hlb3, hQ⟩ := he3
        obtain ⟨q1, q2, q3, q4⟩ := fin (some .ret) s3 G3 a3 W3 H' hR3 hM' hlb3
        exact ⟨_, _, q1, .inr ⟨rfl, .ret, .ret, H', .inl ⟨rfl, rfl⟩, hM', hQ, q2, q3, q4⟩⟩
      | exit id' =>
        obtain ⟨s3, G3, hR3, H', hM', hlb3, hQ⟩ := he3
        obtain ⟨q1, q2, q3, q4⟩ := fin (some (.exit id')) s3 G3 a3 W3 H' hR3 hM' hlb3
        exact ⟨_, _, q1, .inr ⟨rfl, .exit id', .exit id', H', .inr ⟨id', rfl, rfl⟩, hM', hQ, q2, q3, q4⟩⟩
      | goto t => exact he3.elim
      | panic ch => exact he3.elim
      | outgrown => exact he3.elim
    | exit id' => obtain ⟨_, _, _, hf⟩ := he; exact hf.elim
    | ret => obtain ⟨_, _, _, hf⟩ := he; exact hf.elim
    | goto t => exact he.elim
    | panic ch => exact he.elim
    | outgrown => exact he.elim
  · -- behind the iterator
    have back : ∀ (H' : List (List AVal)) (W2 : World) (st : LoopState) (pe : Option Code), st ≠ .busy → M ≤ H'.length → S H' W2 → W2.heap[w.heap.size + 1]? = some (.loop (rec fn st pe)) → W2.heap[w.heap.size]? = some (.deferred (some [])) →
        (Instr.endLoop (w.heap.size + 1)).run P W2 = .ok pe (W2.putObj (w.heap.size + 1) (.loop { rec fn st pe with state := .exhausted })) ∧
        ∃ G', R n m G0 w0 ⟨s.t, H'⟩ G' { a with defers := { target := .collected w.heap.size, args := #[] } :: a.defers } (W2.putObj (w.heap.size + 1) (.loop { rec fn st pe with state := .exhausted })) := by
      intro H' W2 st pe hst hM hS hl hk
      have hrun := run_endLoop (P := P) hl (by rw [hrec]; exact hst)
      refine ⟨by rw [hrun, hrec], ?_⟩
      have hS' := Sgrown _ _ _ (some (w.heap.size + 1)) hS (grownBy_putObj' W2 (w.heap.size + 1) (.loop { rec fn st pe with state := .exhausted })) (fun r e => by injection e with e; subst e; exact ⟨by omega, _, hl, rfl⟩)
      obtain ⟨Gj, c1, c2, c3, c4⟩ := hS'
      have hb := call_back hR none (by simp) (x := .undef) (v := .bool true) c2 c3 (.undef _) (OwnAt.of_not rfl) hM
      have hb : R n m G0 w0 ⟨s.t, H'⟩ (G.back w none Gj) a (W2.putObj (w.heap.size + 1) (.loop { rec fn st pe with state := .exhausted })) := hb
      refine hb.mark ((World.putObj_heap_other (by omega)).trans hk) (fun D' hD' => ?_) hR.ext.size
      obtain ⟨D, e, _, hh, _⟩ := hR.dfr0.2 _ hD'
      injection e with e
      injection e with e
      subst e
      have := (Array.getElem?_eq_some_iff.1 hh).1
      omega
    rintro e W2 ⟨⟨v, rfl⟩, (⟨⟨i, hi, hS⟩, hl, hk⟩ | ⟨jump, e, H', hj, hM, hQ, hS, hl, hk⟩)⟩
    · obtain ⟨q1, G', q2⟩ := back (Hs i) W2 .ready none (by simp) (hfam _ i hi).1 hS hl hk
      exact ⟨none, _, q1, ⟨_, G', q2, hdone i hi⟩⟩
    · obtain ⟨q1, G', q2⟩ := back H' W2 .done (some jump) (by simp) hM hS hl hk
      refine ⟨some jump, _, q1, ?_⟩
      rcases hj with ⟨rfl, rfl⟩ | ⟨id', rfl, rfl⟩
      · exact wpIn_ret ⟨_, G', q2, hQ⟩
      · exact wpIn_exit ⟨_, G', q2, hQ⟩
theorem RangeK.introW {P : Program} {tr : List Nat} {n m : Nat} {g : Operand} {p : Nat} {asg body : Code} {Q : APost} {s : ASt} (hmx : P.follows .mixedOrders = true) (hga : good tr n asg = true) (hgb : good tr n body = true) (hra : hasRange asg = false) (hrb : hasRange body = false) (hp : p < n)
    {gf c k : Nat} (hit : IterP P gf c k) (hen : Enterable P gf) {idb len : Nat} (hl9 : len < 9223372036854775807) (hgv : av s.t g = .fn gf [] [.ptr idb 0]) (el : Nat → AVal) (Fam : List (List AVal) → Prop) (hid : idb < s.H.length) (hsrc : SrcOk idb c k len el Fam)
    {ι : Type} (Hs : ι → List (List AVal)) (Inv : Nat → ι → Prop) (i0 : ι) (h0 : Inv 0 i0) (hle : LeW s.H (Hs i0))
    (hfam : ∀ j i, Inv j i → s.H.length ≤ (Hs i).length ∧ Fam (Hs i))
    (hround : ∀ j i, Inv j i → j < len → awp P tr n s.H.length asg (asgPost (awp P tr n s.H.length body (roundPostW s.H.length s.t Hs Inv j Q))) ⟨fun q => if q = p then el j else (s.t q).dis, Hs i⟩)
    (hdone : ∀ i, Inv len i → Q .normal ⟨s.t, Hs i⟩) : RangeK P n m g #[p] asg body Q s := by
  refine RangeK.introSW hra hrb hp hit hen hl9 hgv el Fam hid hsrc Hs Inv i0 h0 hle hfam (fun j i hi hj => ?_) hdone
  refine SWp_mono (awp_sound hmx asg _ _ hga (hround j i hi hj)) ?_
  intro e s' hs'
  cases e with
  | normal => exact awp_sound hmx body _ _ hgb hs'
  | exit id => exact hs'.elim
  | ret => exact hs'.elim
end Go.Am
