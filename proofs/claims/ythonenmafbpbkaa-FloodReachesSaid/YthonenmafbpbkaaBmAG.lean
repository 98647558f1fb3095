/- Ranges over functions: the rule of the walk. -/
import Derived.Test.YthonenmafbpbkaaBmAF
namespace Go.Am
open Go

theorem wpIn_wr {ρ : Option Nat} {k k' : Nat} {P : Program} {c : Code} {Q : Exit → Act → World → Prop} {a : Act} {w : World} (h : c.wpIn (WR ρ) k P Q a w) : c.wpIn (WR ρ) k' P Q a w :=
  fun b kk cs hro hb _ => h b kk cs hro hb (fun d hd => by have : (none : Option Nat) = some d := hd; cases this)
theorem alloc_old (w : World) (o : Obj) {b : Nat} (hb : b < w.heap.size) : (w.alloc o).heap[b]? = w.heap[b]? := by
  show (w.heap.push o)[b]? = _
  rw [Array.getElem?_push, if_neg (by omega)]
theorem SR.grown {G : Gh} {H : List (List AVal)} {W W' : World} {row : Option Nat} (h : SR G H W) (hg : W.grownBy W' row) (hr : ∀ r, row = some r → ∃ o : Obj, W.heap[r]? = some o ∧ o.isCells = false) : SR G H W' := by
  have hc : ∀ (b : Nat) (c : Array Value) (T : TypeId) (f : Nat × Nat), W.heap[b]? = some (.cells c T f) → W'.heap[b]? = W.heap[b]? := fun b c T f e => hg.block b (Array.getElem?_eq_some_iff.1 e).1 (fun e2 => by
    obtain ⟨o, ho, hn⟩ := hr b e2.symm
    rw [e] at ho
    injection ho with ho
    subst ho
    cases hn)
  refine ⟨fun b o v hv => ?_, fun id cs hid hne => ?_, fun b hb => h.new b (Nat.le_trans hg.size hb)⟩
  · have h0 := h.frz b o v hv
    have : ∃ (c : Array Value) (T : TypeId) (f : Nat × Nat), W.heap[b]? = some (.cells c T f) := by
      unfold World.cell? at h0
      simp only at h0
      split at h0
      · exact ⟨_, _, _, by assumption⟩
      · cases h0
    obtain ⟨c, T, f, e⟩ := this
    rw [World.cell?_of_block (hc b c T f e)]
    exact h0
  · obtain ⟨c, T, h1, h2, h3, h4, h5⟩ := h.box id cs hid hne
    refine ⟨c, T, (hc _ _ _ _ h1).trans h1, h2, h3, h4, fun j x v hx hv => ⟨(h5 j x v hx hv).1, ?_⟩⟩
    intro k xs ad len cap f1 f2 f3
    obtain ⟨g1, g2, g3, g4, c', T', g5, g6⟩ := (h5 j x v hx hv).2 k xs ad len cap f1 f2 f3
    exact ⟨g1, g2, g3, g4, c', T', (hc _ _ _ _ g5).trans g5, g6⟩
theorem Ext.grown {m B : Nat} {T : Nat → Prop} {G0 G : Gh} {w0 W W' : World} {row : Option Nat} (h : Ext m T G0 w0 G W) (hg : W.grownBy W' row) (hB : w0.heap.size ≤ B) (hr : ∀ r, row = some r → B ≤ r) : Ext m T G0 w0 G W' :=
  ⟨hg.os.trans h.os, hg.tape.trans h.tape, hg.output.trans h.output, Nat.le_trans h.size hg.size, h.rho, h.mono, fun b hb ht => by
    obtain ⟨e1, e2, e3⟩ := h.old b hb ht
    exact ⟨(hg.block b (Nat.lt_of_lt_of_le hb h.size) (fun e => by have := hr b e.symm; omega)).trans e1, e2, e3⟩⟩
theorem Ext.callTrans {m : Nat} {A B C : Gh} {wa wb wc : World} (h : Ext m A.Tch A wa B wb) (k : Ext m B.Tch B wb C wc) : Ext m A.Tch A wa C wc :=
  ⟨k.os.trans h.os, k.tape.trans h.tape, k.output.trans h.output, Nat.le_trans h.size k.size, fun i hi => (k.rho i hi).trans (h.rho i hi), h.mono.trans k.mono, fun b hb ht => by
    obtain ⟨h1, h2, h3⟩ := h.old b hb ht
    have hn : ¬ B.Tch b := by
      rintro (⟨id, e⟩ | ⟨id, j, e⟩)
      · exact ht (.inl ⟨id, h2 ▸ e⟩)
      · exact ht (.inr ⟨id, j, h2 ▸ e⟩)
    obtain ⟨k1, k2, k3⟩ := k.old b (Nat.lt_of_lt_of_le hb h.size) hn
    exact ⟨k1.trans h1, k2.trans h2, fun o => (k3 o).trans (h3 o)⟩⟩

/-- From B on whatever is no cells is no variable's. -/
def NC (B : Nat) (G : Gh) (W : World) : Prop := ∀ (b : Nat) (o : Obj), B ≤ b → W.heap[b]? = some o → o.isCells = false → ¬ G.Tch b
theorem NC.grown {B : Nat} {G : Gh} {H : List (List AVal)} {W W' : World} {row : Option Nat} (h : NC B G W) (hs : SR G H W) (hg : W.grownBy W' row) (hr : ∀ r, row = some r → ∃ o : Obj, W.heap[r]? = some o ∧ o.isCells = false) : NC B G W' := by
  intro b o hb ho hn
  by_cases hlt : b < W.heap.size
  · by_cases e : some b = row
    · obtain ⟨o', h1, h2⟩ := hr b e.symm
      exact h b o' hb h1 h2
    · rw [hg.block b hlt e] at ho
      exact h b o hb ho hn
  · have := hs.new b (by omega)
    rintro (⟨id, e⟩ | ⟨id, j, e⟩) <;> rw [this] at e <;> cases e
/-- Whatever is no cells, from B on, is out of reach. -/
noncomputable def Gh.norm (G : Gh) (B : Nat) (W : World) : Gh :=
  { G with K := fun b => @ite _ (B ≤ b ∧ ∃ o : Obj, W.heap[b]? = some o ∧ o.isCells = false) (Classical.propDecidable _) (some .far) (G.K b) }
theorem norm_cells {G : Gh} {B : Nat} {W : World} {b : Nat} {c : Array Value} {T : TypeId} {f : Nat × Nat} (h : W.heap[b]? = some (.cells c T f)) : (G.norm B W).K b = G.K b := by
  refine if_neg ?_
  rintro ⟨_, o, ho, hn⟩
  rw [h] at ho
  injection ho with ho
  subst ho
  cases hn
theorem NC.norm (G : Gh) (B : Nat) (W : World) : NC B (G.norm B W) W := by
  intro b o hb ho hn
  have : (G.norm B W).K b = some .far := if_pos ⟨hb, o, ho, hn⟩
  rintro (⟨id, e⟩ | ⟨id, j, e⟩) <;> rw [this] at e <;> cases e
theorem SR.norm {G : Gh} {H : List (List AVal)} {W : World} (h : SR G H W) (B : Nat) : SR (G.norm B W) H W := by
  refine ⟨h.frz, fun id cs hid hne => ?_, fun b hb => ?_⟩
  · obtain ⟨c, T, h1, h2, h3, h4, h5⟩ := h.box id cs hid hne
    refine ⟨c, T, h1, h2, (norm_cells h1).trans h3, h4, fun j x v hx hv => ⟨(h5 j x v hx hv).1, ?_⟩⟩
    intro k xs ad len cap f1 f2 f3
    obtain ⟨g1, g2, g3, g4, c', T', g5, g6⟩ := (h5 j x v hx hv).2 k xs ad len cap f1 f2 f3
    exact ⟨(norm_cells g5).trans g1, g2, g3, g4, c', T', g5, g6⟩
  · have : (G.norm B W).K b = G.K b := by
      refine if_neg ?_
      rintro ⟨_, o, ho, _⟩
      have := (Array.getElem?_eq_some_iff.1 ho).1
      omega
    rw [this]
    exact h.new b hb
theorem Ext.norm {m : Nat} {T : Nat → Prop} {G0 G : Gh} {w0 W : World} (h : Ext m T G0 w0 G W) : Ext m T G0 w0 (G.norm w0.heap.size W) W :=
  ⟨h.os, h.tape, h.output, h.size, h.rho, h.mono, fun b hb ht => by
    obtain ⟨e1, e2, e3⟩ := h.old b hb ht
    exact ⟨e1, (if_neg (by rintro ⟨h1, _⟩; omega)).trans e2, e3⟩⟩
theorem norm_clean {G : Gh} {B : Nat} {W : World} (h : ∀ b i, G.K b ≠ some (.tmp i)) : ∀ b i, (G.norm B W).K b ≠ some (.tmp i) := by
  intro b i e
  have e : (@ite _ (B ≤ b ∧ ∃ o : Obj, W.heap[b]? = some o ∧ o.isCells = false) (Classical.propDecidable _) (some Pos.far) (G.K b)) = some (.tmp i) := e
  split at e
  · cases e
  · exact h b i e

section
variable {P : Program} {n m : Nat} {G0 : Gh} {w0 : World} {s : ASt} {G : Gh} {a : Act} {w : World}

/-- A block that is no cells is changed ahead of the call and behind it. -/
theorem R.putBoth (h : R n m G0 w0 s G a w) {l : Nat} {o : Obj} (o' : Obj) (hl : w.heap[l]? = some o) (hn : o.isCells = false) (hnd : ∀ x, o ≠ .deferred x) (hl0 : l < w0.heap.size) : R n m G0 (w0.putObj l o') s G a (w.putObj l o') := by
  have hlt := (Array.getElem?_eq_some_iff.1 hl).1
  have hg := grownBy_putObj' w l o'
  have hr : ∀ r, some l = some r → ∃ o : Obj, w.heap[r]? = some o ∧ o.isCells = false := fun r e => by injection e with e; subst e; exact ⟨o, hl, hn⟩
  have hoth : ∀ b, b ≠ l → (w.putObj l o').heap[b]? = w.heap[b]? := fun b hb => World.putObj_heap_other hb
  refine ⟨h.sz, h.out, ⟨h.dfr0.1, fun d hd => ?_⟩, h.clean, ⟨h.ext.os, h.ext.tape, h.ext.output, by simpa using h.ext.size, h.ext.rho, h.ext.mono, fun b hb ht => ?_⟩, h.hm, h.sr.grown hg hr, fun i v hv => ⟨(h.tmp i v hv).1, ?_⟩⟩
  · obtain ⟨D, e, h1, h2, h3⟩ := h.dfr0.2 d hd
    refine ⟨D, e, by simpa using h1, ?_, h3⟩
    rw [hoth D (fun e2 => by rw [e2, hl] at h2; injection h2 with h2; exact hnd _ h2)]
    exact h2
  · have hb : b < w0.heap.size := by simpa using hb
    obtain ⟨e1, e2, e3⟩ := h.ext.old b hb ht
    refine ⟨?_, e2, e3⟩
    by_cases e : b = l
    · subst e
      rw [World.putObj_heap_same hlt, World.putObj_heap_same hl0]
    · rw [hoth b e, World.putObj_heap_other e]
      exact e1
  · intro k xs ad len cap f1 f2 f3
    obtain ⟨g1, g2, g3, g4, c', T', g5, g6⟩ := (h.tmp i v hv).2 k xs ad len cap f1 f2 f3
    refine ⟨g1, g2, g3, g4, c', T', ?_, g6⟩
    rw [hoth _ (fun e => by rw [e, hl] at g5; injection g5 with g5; subst g5; cases hn)]
    exact g5
/-- A mark is laid onto the deferred calls. -/
theorem R.mark (h : R n m G0 w0 s G a w) {D : Nat} (hD : w.heap[D]? = some (.deferred (some []))) (hn : ∀ D', ({ target := .collected D', args := #[] } : Deferred) ∈ a.defers → D' ≠ D) (hw : w0.heap.size ≤ D) :
    ∃ G', R n m G0 w0 s G' { a with defers := { target := .collected D, args := #[] } :: a.defers } w := by
  let G' : Gh := { G with K := fun b => if b = D then some .far else G.K b }
  have hk : ∀ b, b ≠ D → G'.K b = G.K b := fun b hb => if_neg hb
  have hc : ∀ {b : Nat} {c : Array Value} {T : TypeId} {f : Nat × Nat}, w.heap[b]? = some (.cells c T f) → b ≠ D := fun hb e => by rw [e, hD] at hb; cases hb
  have own : ∀ (p : Pos) (x : AVal) (v : Value), OwnAt G w p x v → OwnAt G' w p x v := by
    intro p x v ho k xs ad len cap f1 f2 f3
    obtain ⟨g1, g2, g3, g4, c', T', g5, g6⟩ := ho k xs ad len cap f1 f2 f3
    exact ⟨(hk _ (hc g5)).trans g1, g2, g3, g4, c', T', g5, g6⟩
  refine ⟨G', h.sz, h.out, ⟨List.nodup_cons.2 ⟨fun hm => hn D hm rfl, h.dfr0.1⟩, fun d hd => ?_⟩, h.clean, ⟨h.ext.os, h.ext.tape, h.ext.output, h.ext.size, h.ext.rho, h.ext.mono, fun b hb ht => ?_⟩, h.hm, ⟨h.sr.frz, fun id cs hid hne => ?_, fun b hb => ?_⟩, fun i v hv => ⟨(h.tmp i v hv).1, own _ _ _ (h.tmp i v hv).2⟩⟩
  · rcases List.mem_cons.1 hd with rfl | hd
    · exact ⟨D, rfl, hw, hD, if_pos rfl⟩
    · obtain ⟨D', e, h1, h2, h3⟩ := h.dfr0.2 d hd
      refine ⟨D', e, h1, h2, ?_⟩
      show (if D' = D then some Pos.far else G.K D') = some .far
      split
      · rfl
      · exact h3
  · obtain ⟨e1, e2, e3⟩ := h.ext.old b hb ht
    exact ⟨e1, (hk b (by omega)).trans e2, e3⟩
  · obtain ⟨c, T, h1, h2, h3, h4, h5⟩ := h.sr.box id cs hid hne
    exact ⟨c, T, h1, h2, (hk _ (hc h1)).trans h3, h4, fun j x v hx hv => ⟨(h5 j x v hx hv).1, own _ _ _ (h5 j x v hx hv).2⟩⟩
  · have hlt := (Array.getElem?_eq_some_iff.1 hD).1
    rw [hk b (by omega)]
    exact h.sr.new b hb
end

/-- What the iterator reads: a pointer in a box, and behind it a slice's header. -/
def HdrAt (bb c len : Nat) (W : World) (b p : Nat) (ad : Option Addr) (cap : Nat) : Prop :=
  W.cell? ⟨bb, 0, none⟩ = some (.pointer (some ⟨b, p, none⟩)) ∧ W.cell? ⟨b, p + c, none⟩ = some (.slice ad len cap) ∧ (0 < len → ∃ a2, ad = some a2 ∧ a2.spot = none)
/-- What an iterator over the elements of a struct's slice (cell c of the struct; elements of k cells) promises: the elements' places, one after another. -/
def IterP (P : Program) (gf c k : Nat) : Prop := ∀ (bb len l : Nat) (J : Nat → World → Prop) (Jx : World → Prop) (W : World),
  len < 9223372036854775807 → (∀ j W, J j W → ∃ b p ad cap, HdrAt bb c len W b p ad cap) →
  (∀ j W W', J j W → W.grownBy W' none → J j W') → (∀ W W', Jx W → W.grownBy W' none → Jx W') →
  (∀ j W1 b p a2 cap, J j W1 → j < len → HdrAt bb c len W1 b p (some a2) cap → YieldAt Fence.wide 0 P l #[.pointer (some ⟨a2.block, a2.off + j * k, none⟩)] W1 fun e W' => (e = .returned (.bool true) ∧ J (j + 1) W') ∨ (e = .returned (.bool false) ∧ Jx W')) →
  J 0 W → Calls P gf #[.func (.yield l) #[] #[], .pointer (some ⟨bb, 0, none⟩)] W fun e W' => (∃ v, e = .returned v) ∧ (J len W' ∨ Jx W')

theorem SWp_mono {P : Program} {n m : Nat} {c : Code} {Q Q' : APost} {s : ASt} (h : SWp P n m c Q s) (hq : ∀ e s, Q e s → Q' e s) : SWp P n m c Q' s := by
  intro ρ hρ kk G0 w0 G a w hR
  refine wpIn_mono (h ρ hρ kk G0 w0 G a w hR) ?_
  intro e a' w' he
  cases e with
  | normal => obtain ⟨s', G', h1, h2⟩ := he; exact ⟨s', G', h1, hq _ _ h2⟩
  | exit id => obtain ⟨s', G', h1, h2⟩ := he; exact ⟨s', G', h1, hq _ _ h2⟩
  | ret => obtain ⟨s', G', h1, h2⟩ := he; exact ⟨s', G', h1, hq _ _ h2⟩
  | goto t => exact he
  | panic ch => exact he
  | outgrown => exact he
def asgPost (K : ASt → Prop) : APost
  | .normal, s => K s
  | _, _ => False
def roundPostA {ι : Type} (m : Nat) (t : Nat → AVal) (Hs : ι → List (List AVal)) (Inv : Nat → ι → Prop) (j : Nat) (Q : APost) : APost
  | .normal, s => ∃ i, Inv (j + 1) i ∧ LeBoxes (Hs i).length s.H (Hs i)
  | e, s => ∃ H', m ≤ H'.length ∧ LeBoxes H'.length s.H H' ∧ Q e ⟨t, H'⟩

/-- Where the elements lie that the iterator hands over, in whatever world of these variables. -/
def SrcOk (idb c k len : Nat) (el : Nat → AVal) (Fam : List (List AVal) → Prop) : Prop :=
  ∀ (G' : Gh) (W : World) (H' : List (List AVal)), SR G' H' W → Fam H' → ∃ b p ad cap, HdrAt (G'.r idb).1 c len W b p ad cap ∧
    ∀ a2, ad = some a2 → ∀ j, j < len → Rep H'.length G'.r G'.F (el j) (.pointer (some ⟨a2.block, a2.off + j * k, none⟩)) ∧ (el j).isOwn = false
theorem RangeK.introS {P : Program} {n m : Nat} {g : Operand} {p : Nat} {asg body : Code} {Q : APost} {s : ASt} (hra : hasRange asg = false) (hrb : hasRange body = false) (hp : p < n)
    {gf c k : Nat} (hit : IterP P gf c k) (hen : Enterable P gf) {idb len : Nat} (hl9 : len < 9223372036854775807) (hgv : av s.t g = .fn gf [] [.ptr idb 0]) (el : Nat → AVal) (Fam : List (List AVal) → Prop) (hid : idb < s.H.length) (hsrc : SrcOk idb c k len el Fam)
    {ι : Type} (Hs : ι → List (List AVal)) (Inv : Nat → ι → Prop) (i0 : ι) (h0 : Inv 0 i0) (hle : LeBoxes (Hs i0).length s.H (Hs i0))
    (hfam : ∀ j i, Inv j i → s.H.length ≤ (Hs i).length ∧ Fam (Hs i))
    (hround : ∀ j i, Inv j i → j < len → SWp P n s.H.length asg (asgPost (SWp P n s.H.length body (roundPostA s.H.length s.t Hs Inv j Q))) ⟨fun q => if q = p then el j else (s.t q).dis, Hs i⟩)
    (hdone : ∀ i, Inv len i → Q .normal ⟨s.t, Hs i⟩) : RangeK P n m g #[p] asg body Q s := by
  intro ρ hρ kk G0 w0 G a w hR
  obtain rfl : ρ = none := hρ rfl
  -- the iterator's value
  have hg := hR.get g
  rw [hgv] at hg
  have hev : a.eval g = .func (.func gf) #[] #[.pointer (some ⟨(G.r idb).1, 0, none⟩)] := by
    generalize a.eval g = v at hg
    cases hg with
    | tree _ _ ht => cases ht
    | fn _ _ _ fs' cs' e1 e2 e3 e4 =>
      rw [Array.size_eq_zero_iff.1 e1]
      have e2 : cs'.size = 1 := e2
      obtain ⟨v, hv⟩ : ∃ v, cs' = #[v] := by
        refine ⟨cs'[0], ?_⟩
        apply Array.ext
        · simpa using e2
        · intro i h1 h2
          obtain rfl : i = 0 := by simp at h2; omega
          rfl
      subst hv
      have := e4 0 _ v rfl rfl
      cases this with
      | ptr _ _ _ => rfl
      | tree _ _ ht => cases ht
  obtain ⟨gfn, hgf, hname, hbody⟩ := hen
  -- the round's invariant
  obtain ⟨rec, hrec⟩ : ∃ rec : FuncId → LoopState → Option Code → Loop, rec = fun fn st pe => { state := st, pending := pe, fn, tmps := a.tmps, params := #[p], assign := asg, body, defers := w.heap.size } := ⟨_, rfl⟩
  let M := s.H.length
  let S : List (List AVal) → World → Prop := fun H W => ∃ Gj : Gh, (∀ b i, Gj.K b ≠ some (.tmp i)) ∧ Ext M G.away.Tch G.away w Gj W ∧ SR Gj H W ∧ NC w.heap.size Gj W
  have Sgrown : ∀ (H : List (List AVal)) (W W' : World) (row : Option Nat), S H W → W.grownBy W' row → (∀ r, row = some r → w.heap.size ≤ r ∧ ∃ o : Obj, W.heap[r]? = some o ∧ o.isCells = false) → S H W' := by
    rintro H W W' row ⟨Gj, c1, c2, c3, c4⟩ hg hr
    exact ⟨Gj, c1, c2.grown hg (Nat.le_refl _) (fun r e => (hr r e).1), c3.grown hg (fun r e => (hr r e).2), c4.grown c3 hg (fun r e => (hr r e).2)⟩
  have hS0 : S (Hs i0) w := by
    have hclean : ∀ b i, G.away.K b ≠ some (.tmp i) := by
      intro b i e
      have : (match G.K b with | some (.tmp _) => some Pos.far | some .ret => some .far | x => x) = some (.tmp i) := e
      split at this <;> first | (cases this; done) | (rename_i e1 e2; exact (e1 _ this))
    have hsr : SR G.away (Hs i0) w := (hR.sr.away).weaken (s := s) (s' := ⟨s.t, Hs i0⟩) (LeBoxes_st hle)
    exact ⟨G.away.norm w.heap.size w, norm_clean hclean, (Ext.refl M G.away.Tch G.away w).norm, hsr.norm _, NC.norm _ _ _⟩
  have hrb' : ∀ Gj W, Ext M G.away.Tch G.away w Gj W → (Gj.r idb).1 = (G.r idb).1 := fun Gj W h => by rw [h.rho idb hid]; rfl
  -- the statement
  refine wpIn_wr (k := 2) ?_
  refine wpIn_rangeFunc (F := Fence.wide) (n := 2) fun fn _ => ?_
  obtain ⟨W1, hW1⟩ : ∃ W1, (w.alloc (.deferred (some []))).alloc (.loop (rec fn .ready none)) = W1 := ⟨_, rfl⟩
  have hL1 : W1.heap[w.heap.size + 1]? = some (.loop (rec fn .ready none)) := by
    rw [← hW1]; have := World.alloc_heap_new (w.alloc (.deferred (some []))) (.loop (rec fn .ready none)); rwa [World.size_alloc] at this
  have hK1 : W1.heap[w.heap.size]? = some (.deferred (some [])) := by
    rw [← hW1]; exact (alloc_old _ _ (by simp)).trans (World.alloc_heap_new w _)
  have hg1 : w.grownBy W1 none := by
    rw [← hW1]
    refine ⟨rfl, rfl, rfl, by simp; omega, fun b hb _ => ?_⟩
    rw [alloc_old _ _ (by simp; omega), alloc_old _ _ hb]
  have hS1 : S (Hs i0) W1 := Sgrown _ _ _ none hS0 hg1 (fun r e => by cases e)
  have hcf : ∀ args W, (callFunc gf args).run P W = .ok (.enter gf args) W := fun args W => by
    have e1 : ¬ gfn.name = "runtime.NumGoroutine" := by simpa using hname
    have e2 : ¬ gfn.body = none := by intro e; rw [e] at hbody; cases hbody
    simp [callFunc, hgf, e1, e2]
  refine ⟨w.heap.size + 1, [{ target := .collected w.heap.size, args := #[] }], W1, { target := .fn (.func gf) #[.pointer (some ⟨(G.r idb).1, 0, none⟩)], args := #[.func (.yield (w.heap.size + 1)) #[] #[]] }, W1, gf,
    #[.func (.yield (w.heap.size + 1)) #[] #[], .pointer (some ⟨(G.r idb).1, 0, none⟩)], W1, ?_, ?_, fun _ _ => trivial, ?_, fun h => (by cases h), ?_⟩
  · rw [← hW1, hrec]; exact run_enterLoop_outer _ _ _ _ _
  · simp only [resolve, hev]
    simp [go_sem]
  · simp [invoke, go_sem, hcf]
  refine (callsIn_wide (n := 1)).2 ?_
  let Rdy : World → Prop := fun W => W.heap[w.heap.size + 1]? = some (.loop (rec fn .ready none)) ∧ W.heap[w.heap.size]? = some (.deferred (some []))
  have Sblk : ∀ (Gj : Gh) (H H' : List (List AVal)) (x : ASt) (Gx : Gh) (ax : Act) (W W' : World), NC w.heap.size Gj W → R n M Gj W x Gx ax W' → ∀ (b : Nat) (o : Obj), w.heap.size ≤ b → W.heap[b]? = some o → o.isCells = false → W'.heap[b]? = some o := by
    intro Gj H H' x Gx ax W W' hnc hx b o hb ho hn
    exact (hx.ext.old b (Array.getElem?_eq_some_iff.1 ho).1 (hnc b o hb ho hn)).1.trans ho
  refine (hit (G.r idb).1 len (w.heap.size + 1)
    (fun j W => (∃ i, Inv j i ∧ S (Hs i) W) ∧ Rdy W)
    (fun W => ∃ (jump : Code) (e : AEx) (H' : List (List AVal)), (e = .ret ∧ jump = .ret ∨ ∃ id, e = .exit id ∧ jump = .exit id) ∧ M ≤ H'.length ∧ Q e ⟨s.t, H'⟩ ∧ S H' W ∧ W.heap[w.heap.size + 1]? = some (.loop (rec fn .done (some jump))) ∧ W.heap[w.heap.size]? = some (.deferred (some [])))
    W1 hl9 ?_ ?_ ?_ ?_ ⟨⟨i0, h0, hS1⟩, hL1, hK1⟩).mono ?_
  · rintro j W ⟨⟨i, hi, Gj, c1, c2, c3, c4⟩, _⟩
    obtain ⟨b, p, ad, cap, z1, _⟩ := hsrc Gj W (Hs i) c3 (hfam j i hi).2
    rw [hrb' Gj W c2] at z1
    exact ⟨b, p, ad, cap, z1⟩
  · rintro j W W' ⟨⟨i, hi, hS⟩, r1, r2⟩ hg
    exact ⟨⟨i, hi, Sgrown _ _ _ none hS hg (fun r e => by cases e)⟩, (hg.block _ (Array.getElem?_eq_some_iff.1 r1).1 (by simp)).trans r1, (hg.block _ (Array.getElem?_eq_some_iff.1 r2).1 (by simp)).trans r2⟩
  · rintro W W' ⟨jump, e, H', h1, h2, h3, hS, r1, r2⟩ hg
    exact ⟨jump, e, H', h1, h2, h3, Sgrown _ _ _ none hS hg (fun r e => by cases e), (hg.block _ (Array.getElem?_eq_some_iff.1 r1).1 (by simp)).trans r1, (hg.block _ (Array.getElem?_eq_some_iff.1 r2).1 (by simp)).trans r2⟩
  · -- one round
    rintro j W b0 p0 a2 cap0 ⟨⟨i, hi, Gj, c1, c2, c3, c4⟩, r1, r2⟩ hj hh
    obtain ⟨f1, f2⟩ := hfam j i hi
    obtain ⟨b9, p9, ad9, cap9, z1, z2⟩ := hsrc Gj W (Hs i) c3 f2
    rw [hrb' Gj W c2] at z1
    have ead : ad9 = some a2 := by
      have e1 := hh.1.symm.trans z1.1
      injection e1 with e1
      injection e1 with e1
      injection e1 with e1
      injection e1 with e1 e2
      subst e1 e2
      have e3 := hh.2.1.symm.trans z1.2.1
      injection e3 with e3
      injection e3 with e3
      exact e3.symm
    have z3 := z2 a2 ead
    have hy := run_yield (P := P) (args := #[.pointer (some ⟨a2.block, a2.off + j * k, none⟩)]) r1 (by rw [hrec]; rfl)
    refine ⟨fn, a.tmps.setIfInBounds p (.pointer (some ⟨a2.block, a2.off + j * k, none⟩)), asg, body, by rw [hy, hrec]; simp, roundIn_of_wpIn trivial ?_⟩
    have hstart : R n M Gj W ⟨fun q => if q = p then el j else (s.t q).dis, Hs i⟩ Gj { tmps := a.tmps.setIfInBounds p (.pointer (some ⟨a2.block, a2.off + j * k, none⟩)), defers := [] } W := by
      refine ⟨by simpa using hR.sz, fun q hq => ?_, Dfr.nil _ _ _, c1, Ext.refl _ _ _ _, f1, c3, fun q v hv => ?_⟩
      · show (if q = p then el j else (s.t q).dis) = .undef
        rw [if_neg (by omega), hR.out q hq]; rfl
      · simp only [Array.getElem?_setIfInBounds] at hv
        show Rep (Hs i).length Gj.r Gj.F (if q = p then el j else (s.t q).dis) v ∧ OwnAt Gj W (.tmp q) (if q = p then el j else (s.t q).dis) v
        by_cases e : p = q
        · subst e
          have hlt : p < a.tmps.size := by rw [hR.sz]; exact hp
          simp only [if_true, hlt, Option.some.injEq] at hv
          subst hv
          rw [if_pos rfl]
          exact ⟨(z3 j hj).1, OwnAt.of_not (z3 j hj).2⟩
        · rw [if_neg e] at hv
          rw [if_neg (fun e2 => e e2.symm)]
          exact ⟨((hR.tmp q v hv).1.dis).mono f1 (fun i hi => by rw [c2.rho i hi]; rfl) c2.mono, OwnAt.of_not (isOwn_dis _)⟩
    have ha := (hround j i hi hj) (some (w.heap.size + 1)) (fun e => by rw [hra] at e; cases e) 0 Gj W Gj _ W hstart
    refine wpIn_mono (wpIn_wr ha) ?_
    intro e a' W' he
    cases e with
    | normal =>
      obtain ⟨s', G', hR', hbody'⟩ := he
      have hl' := Sblk Gj [] [] _ _ _ _ _ c4 hR' _ _ (by omega) r1 rfl
      have hk' := Sblk Gj [] [] _ _ _ _ _ c4 hR' _ _ (Nat.le_refl _) r2 rfl
      have hlW := (Array.getElem?_eq_some_iff.1 r1).1
      have hR2 := hR'.putBoth (.loop { rec fn .ready none with state := .busy }) hl' rfl (by simp) hlW
      refine ⟨_, run_beginRound hl' (by rw [hrec]), ?_⟩
      have hb := hbody' (some (w.heap.size + 1)) (fun e => by rw [hrb] at e; cases e) 0 _ _ _ _ _ hR2
      refine wpIn_mono (wpIn_wr hb) ?_
      -- behind the body
      have fin : ∀ (jump : Option Code) (s3 : ASt) (G3 : Gh) (a3 : Act) (W3 : World) (H3 : List (List AVal)), R n M Gj (W.putObj (w.heap.size + 1) (.loop { rec fn .ready none with state := .busy })) s3 G3 a3 W3 → M ≤ H3.length → LeBoxes H3.length s3.H H3 →
          (Instr.endRound (w.heap.size + 1) jump).run P W3 = .ok (.bool jump.isNone) (W3.putObj (w.heap.size + 1) (.loop (rec fn (if jump.isNone then .ready else .done) jump))) ∧
          S H3 (W3.putObj (w.heap.size + 1) (.loop (rec fn (if jump.isNone then .ready else .done) jump))) ∧
          (W3.putObj (w.heap.size + 1) (.loop (rec fn (if jump.isNone then .ready else .done) jump))).heap[w.heap.size + 1]? = some (.loop (rec fn (if jump.isNone then .ready else .done) jump)) ∧
          (W3.putObj (w.heap.size + 1) (.loop (rec fn (if jump.isNone then .ready else .done) jump))).heap[w.heap.size]? = some (.deferred (some [])) := by
        intro jump s3 G3 a3 W3 H3 hR3 hM3 hlb3
        have hwl : (W.putObj (w.heap.size + 1) (.loop { rec fn .ready none with state := .busy })).heap[w.heap.size + 1]? = some (.loop { rec fn .ready none with state := .busy }) := World.putObj_heap_same hlW
        have hwk : (W.putObj (w.heap.size + 1) (.loop { rec fn .ready none with state := .busy })).heap[w.heap.size]? = some (.deferred (some [])) := (World.putObj_heap_other (by omega)).trans r2
        have hgp := grownBy_putObj' W (w.heap.size + 1) (.loop { rec fn .ready none with state := .busy })
        have hgr : ∀ r, some (w.heap.size + 1) = some r → ∃ o : Obj, W.heap[r]? = some o ∧ o.isCells = false := fun r e => by injection e with e; subst e; exact ⟨_, r1, rfl⟩
        have c4' := c4.grown c3 hgp hgr
        have hl3 := Sblk Gj [] [] _ _ _ _ _ c4' hR3 _ _ (by omega) hwl rfl
        have hk3 := Sblk Gj [] [] _ _ _ _ _ c4' hR3 _ _ (Nat.le_refl _) hwk rfl
        obtain ⟨v, Gr, _, d1, d2, _, _, d5, _⟩ := hR3.leave (r := none) (x := .undef) (v := .bool true) (H0 := s.H) (H' := H3) rfl (.undef _) (OwnAt.of_not rfl) hM3 hlb3
        have hrun := run_endRound (P := P) jump hl3
        rw [hrec] at hrun ⊢
        refine ⟨hrun, ?_, World.putObj_heap_same (Array.getElem?_eq_some_iff.1 hl3).1, (World.putObj_heap_other (by omega)).trans hk3⟩
        have hx : Ext M G.away.Tch G.away w Gr W3 := (c2.grown hgp (Nat.le_refl _) (fun r e => by injection e with e; omega)).callTrans d1
        have hS3 : S H3 W3 := ⟨Gr.norm w.heap.size W3, norm_clean d5, hx.norm, d2.norm _, NC.norm _ _ _⟩
        refine Sgrown _ _ _ (some (w.heap.size + 1)) hS3 (grownBy_putObj' _ _ _) (fun r e => ?_)
        injection e with e
        subst e
        exact ⟨by omega, _, hl3, rfl⟩
      intro e3 a3 W3 he3
      cases e3 with
      | normal =>
        obtain ⟨s3, G3, hR3, i', hi', hlb3⟩ := he3
        obtain ⟨q1, q2, q3, q4⟩ := fin none s3 G3 a3 W3 (Hs i') hR3 (hfam _ i' hi').1 hlb3
        exact ⟨_, _, q1, .inl ⟨rfl, ⟨i', hi', q2⟩, q3, q4⟩⟩
      | ret =>
        obtain ⟨s3, G3, hR3, H', hM', hlb3, hQ⟩ := he3
        obtain ⟨q1, q2, q3, q4⟩ := fin (some .ret) s3 G3 a3 W3 H' hR3 hM' hlb3
        exact ⟨_, _, q1, .inr ⟨rfl, .ret, .ret, H', .inl ⟨rfl, rfl⟩, hM', hQ, q2, q3, q4⟩⟩
      | exit id' =>
        obtain ⟨s3, G3, hR3, H', hM', hlb3, hQ⟩ := he3
        obtain ⟨q1, q2, q3, q4⟩ := fin (some (.exit id')) s3 G3 a3 W3 H' hR3 hM' hlb3
        exact ⟨_, _, q1, .inr ⟨rfl, .exit id', .exit id', H', .inr ⟨id', rfl, rfl⟩, hM', hQ, q2, q3, q4⟩⟩
      | goto t => exact he3.elim
      | panic ch => exact he3.elim
      | outgrown => exact he3.elim
    | exit id' => obtain ⟨_, _, _, hf⟩ := he; exact hf.elim
    | ret => obtain ⟨_, _, _, hf⟩ := he; exact hf.elim
    | goto t => exact he.elim
    | panic ch => exact he.elim
    | outgrown => exact he.elim
  · -- behind the iterator
    have back : ∀ (H' : List (List AVal)) (W2 : World) (st : LoopState) (pe : Option Code), st ≠ .busy → M ≤ H'.length → S H' W2 → W2.heap[w.heap.size + 1]? = some (.loop (rec fn st pe)) → W2.heap[w.heap.size]? = some (.deferred (some [])) →
        (Instr.endLoop (w.heap.size + 1)).run P W2 = .ok pe (W2.putObj (w.heap.size + 1) (.loop { rec fn st pe with state := .exhausted })) ∧
        ∃ G', R n m G0 w0 ⟨s.t, H'⟩ G' { a with defers := { target := .collected w.heap.size, args := #[] } :: a.defers } (W2.putObj (w.heap.size + 1) (.loop { rec fn st pe with state := .exhausted })) := by
      intro H' W2 st pe hst hM hS hl hk
      have hrun := run_endLoop (P := P) hl (by rw [hrec]; exact hst)
      refine ⟨by rw [hrun, hrec], ?_⟩
      have hS' := Sgrown _ _ _ (some (w.heap.size + 1)) hS (grownBy_putObj' W2 (w.heap.size + 1) (.loop { rec fn st pe with state := .exhausted })) (fun r e => by injection e with e; subst e; exact ⟨by omega, _, hl, rfl⟩)
      obtain ⟨Gj, c1, c2, c3, c4⟩ := hS'
      have hb := call_back hR none (by simp) (x := .undef) (v := .bool true) c2 c3 (.undef _) (OwnAt.of_not rfl) hM
      have hb : R n m G0 w0 ⟨s.t, H'⟩ (G.back w none Gj) a (W2.putObj (w.heap.size + 1) (.loop { rec fn st pe with state := .exhausted })) := hb
      refine hb.mark ((World.putObj_heap_other (by omega)).trans hk) (fun D' hD' => ?_) hR.ext.size
      obtain ⟨D, e, _, hh, _⟩ := hR.dfr0.2 _ hD'
      injection e with e
      injection e with e
      subst e
      have := (Array.getElem?_eq_some_iff.1 hh).1
      omega
    rintro e W2 ⟨⟨v, rfl⟩, (⟨⟨i, hi, hS⟩, hl, hk⟩ | ⟨jump, e, H', hj, hM, hQ, hS, hl, hk⟩)⟩
    · obtain ⟨q1, G', q2⟩ := back (Hs i) W2 .ready none (by simp) (hfam _ i hi).1 hS hl hk
      exact ⟨none, _, q1, ⟨_, G', q2, hdone i hi⟩⟩
    · obtain ⟨q1, G', q2⟩ := back H' W2 .done (some jump) (by simp) hM hS hl hk
      refine ⟨some jump, _, q1, ?_⟩
      rcases hj with ⟨rfl, rfl⟩ | ⟨id', rfl, rfl⟩
      · exact wpIn_ret ⟨_, G', q2, hQ⟩
      · exact wpIn_exit ⟨_, G', q2, hQ⟩
theorem RangeK.introG {P : Program} {tr : List Nat} {n m : Nat} {g : Operand} {p : Nat} {asg body : Code} {Q : APost} {s : ASt} (hmx : P.follows .mixedOrders = true) (hga : good tr n asg = true) (hgb : good tr n body = true) (hra : hasRange asg = false) (hrb : hasRange body = false) (hp : p < n)
    {gf c k : Nat} (hit : IterP P gf c k) (hen : Enterable P gf) {idb len : Nat} (hl9 : len < 9223372036854775807) (hgv : av s.t g = .fn gf [] [.ptr idb 0]) (el : Nat → AVal) (Fam : List (List AVal) → Prop) (hid : idb < s.H.length) (hsrc : SrcOk idb c k len el Fam)
    {ι : Type} (Hs : ι → List (List AVal)) (Inv : Nat → ι → Prop) (i0 : ι) (h0 : Inv 0 i0) (hle : LeBoxes (Hs i0).length s.H (Hs i0))
    (hfam : ∀ j i, Inv j i → s.H.length ≤ (Hs i).length ∧ Fam (Hs i))
    (hround : ∀ j i, Inv j i → j < len → awp P tr n s.H.length asg (asgPost (awp P tr n s.H.length body (roundPostA s.H.length s.t Hs Inv j Q))) ⟨fun q => if q = p then el j else (s.t q).dis, Hs i⟩)
    (hdone : ∀ i, Inv len i → Q .normal ⟨s.t, Hs i⟩) : RangeK P n m g #[p] asg body Q s := by
  refine RangeK.introS hra hrb hp hit hen hl9 hgv el Fam hid hsrc Hs Inv i0 h0 hle hfam (fun j i hi hj => ?_) hdone
  refine SWp_mono (awp_sound hmx asg _ _ hga (hround j i hi hj)) ?_
  intro e s' hs'
  cases e with
  | normal => exact awp_sound hmx body _ _ hgb hs'
  | exit id => exact hs'.elim
  | ret => exact hs'.elim
/-- The elements of a row among the variables. -/
theorem SrcOk.own {idb id off c k len id2 o2 : Nat} : SrcOk idb c k len (fun j => .ptr id2 (o2 + j * k)) (fun H => id2 < H.length ∧ H[idb]? = some [.ptr id off] ∧ ∃ cs cap, H[id]? = some cs ∧ cs[off + c]? = some (.osl id2 o2 len cap k)) := by
  rintro G W H hs ⟨h0, h1, cs, cap, h2, h3⟩
  obtain ⟨c1, T1, q1, q2, _, _, q5⟩ := hs.box idb _ h1 (by simp)
  have hlt1 : 0 < c1.size := Nat.lt_of_lt_of_le (by simp) q2.1
  obtain ⟨z1, _⟩ := q5 0 (.ptr id off) c1[0] rfl (Array.getElem?_eq_getElem hlt1)
  have hne : cs ≠ [] := by rintro rfl; simp at h3
  obtain ⟨c2, T2, p1, p2, _, _, p5⟩ := hs.box id cs h2 hne
  have hlt2 : off + c < c2.size := Nat.lt_of_lt_of_le (List.getElem?_eq_some_iff.1 h3).1 p2.1
  obtain ⟨y1, _⟩ := p5 (off + c) _ c2[off + c] h3 (Array.getElem?_eq_getElem hlt2)
  have e1 : W.cell? ⟨(G.r idb).1, 0, none⟩ = some c1[0] := by
    unfold World.cell?
    simp only [q1]
    simp [hlt1]
  have e2 : W.cell? ⟨(G.r id).1, off + c, none⟩ = some c2[off + c] := by
    unfold World.cell?
    simp only [p1]
    simp [hlt2]
  generalize c1[0] = v1 at z1 e1
  generalize c2[off + c] = v2 at y1 e2
  have hv1 : v1 = .pointer (some ⟨(G.r id).1, off, none⟩) := by
    cases z1 with
    | ptr _ _ _ => rfl
    | tree _ _ ht => cases ht
  subst hv1
  have hv2 : ∃ ad cap', v2 = .slice ad len cap' ∧ (0 < len → ad = some ⟨(G.r id2).1, o2, none⟩) := by
    cases y1 with
    | tree _ _ ht => cases ht
    | osl _ _ _ _ _ c' _ _ _ _ => exact ⟨_, _, rfl, fun _ => rfl⟩
    | osl0 _ _ _ _ ad _ _ => exact ⟨_, _, rfl, fun h => absurd h (by omega)⟩
  obtain ⟨ad, cap', rfl, had⟩ := hv2
  refine ⟨_, _, ad, cap', ⟨e1, e2, fun h => ⟨_, had h, rfl⟩⟩, fun a2 ha j hj => ⟨?_, rfl⟩⟩
  have := had (by omega)
  rw [ha] at this
  injection this with this
  subst this
  exact .ptr id2 _ h0
/-- The elements of a row of data. -/
theorem SrcOk.data {idb off c k len : Nat} {cs xs : List AVal} {md : Mode} (hlen : xs.length = len) (hc : cs[off + c]? = some (.sl k xs md)) : SrcOk idb c k len (fun j => .iptr (xs.getD j .undef).cells 0) (fun H => H[idb]? = some [.iptr cs off]) := by
  rintro G W H hs h1
  obtain ⟨c1, T1, q1, q2, _, _, q5⟩ := hs.box idb _ h1 (by simp)
  have hlt1 : 0 < c1.size := Nat.lt_of_lt_of_le (by simp) q2.1
  obtain ⟨z1, _⟩ := q5 0 (.iptr cs off) c1[0] rfl (Array.getElem?_eq_getElem hlt1)
  have e1 : W.cell? ⟨(G.r idb).1, 0, none⟩ = some c1[0] := by
    unfold World.cell?
    simp only [q1]
    simp [hlt1]
  generalize c1[0] = v1 at z1 e1
  cases z1 with
  | tree _ _ ht => cases ht
  | iptr _ _ b o val hsc hF hrep =>
    have hlt := (List.getElem?_eq_some_iff.1 hc).1
    have e2 := hs.frz b (o + (off + c)) _ (hF (off + c) hlt)
    have hr := hrep (off + c) _ hc
    obtain ⟨base, cap, L, r1, r2, r3, r4, r5, r6, r7, r8, r9, r10⟩ := hr.slcells
    rw [r1] at e2
    have e2 : W.cell? ⟨b, o + off + c, none⟩ = some (.slice base xs.length cap) := by rw [Nat.add_assoc]; exact e2
    rw [hlen] at e2
    have hxs : 0 < len → xs ≠ [] := fun h e => by rw [e] at hlen; simp at hlen; omega
    refine ⟨b, o + off, base, cap, ⟨e1, e2, fun h => ?_⟩, fun a2 ha j hj => ⟨?_, rfl⟩⟩
    · cases base with
      | none => exact absurd (r4 rfl).1 (hxs h)
      | some ad => exact ⟨ad, rfl, (r6 ad rfl).1 (hxs h)⟩
    · subst ha
      have hF2 := (r6 a2 rfl).2
      obtain ⟨x, hx⟩ : ∃ x, xs[j]? = some x := ⟨_, List.getElem?_eq_getElem (by omega)⟩
      have hxd : xs.getD j .undef = x := by rw [List.getD_eq_getElem?_getD, hx]; rfl
      have hxm := List.mem_of_getElem? hx
      simp only [hxd]
      have hk := r7 x hxm
      refine .iptr x.cells 0 a2.block (a2.off + j * k) (fun i => L.getD (j * k + i) undef) (r8 x hxm) (fun i hi => ?_) (fun i y hy => ?_)
      · obtain ⟨u, hu, _⟩ := r10 j i x _ hx (List.getElem?_eq_getElem hi)
        rw [Nat.add_assoc, hF2 _ u hu]
        simp [List.getD_eq_getElem?_getD, hu]
      · obtain ⟨u, hu, hr⟩ := r10 j i x y hx hy
        simp only [List.getD_eq_getElem?_getD, hu, Option.getD_some]
        exact hr
end Go.Am
