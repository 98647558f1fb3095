/- The abstract machine, part thirty-two: an append onto a row of the call's own, wherever in its block the slice begins; a loop whose round is no plain code. -/
import Derived.Test.YtfngaildaoahpaaAmAE
namespace Go.Am
open Go

/-- Cells that are no rows with the right to grow, nor anything that has parts. -/
def plainCells (cs : List AVal) : Bool := cs.all fun c => c.scalar && !c.isOwn
/-- The cells of what is appended. -/
def flatC (zs : List AVal) : List AVal := zs.flatMap AVal.cells
/-- append onto a row of which the room is not known: in its place or in a new one. -/
def aappN (P : Program) (d : Nat) (t u : TypeId) (x y : AVal) (K : ASt → Prop) (s : ASt) : Prop :=
  match tap P t, x, y with
  | some (k, by_), .osl id off len cap k3, .sl k2 zs _ =>
    match s.H[id]? with
    | some cs => (k3 = k ∧ t = u ∧ cs ≠ [] ∧ off + len * k ≤ cs.length ∧ (len + zs.length) * by_ ≤ 140737488355328 ∧ len + zs.length ≤ 140737488355328 ∧ plainCells (cs.take (off + len * k)) = true ∧ plainCells (flatC zs) = true) ∧
        (if zs.length = 0 then K ⟨upd s.t d (.osl id off len cap k), s.H⟩ else
          k2 = k ∧ K ⟨upd s.t d (.osl s.H.length off (len + zs.length) none k), s.H.set id [] ++ [cs.take (off + len * k) ++ flatC zs]⟩ ∧
          K ⟨upd s.t d (.osl s.H.length 0 (len + zs.length) none k), s.H.set id [] ++ [(cs.drop off).take (len * k) ++ flatC zs]⟩)
    | none => False
  | _, _, _ => False

section
variable {P : Program} {n m : Nat} {G0 : Gh} {w0 : World} {s : ASt} {G : Gh} {a : Act} {w : World}

theorem aappN_sound (h : R n m G0 w0 s G a w) {d : Nat} (hd : d < n) {t u ty : TypeId} {x y : AVal} {vx vy : Value} (hx : Rep s.H.length G.r G.F x vx) (hy : Rep s.H.length G.r G.F y vy) {K : ASt → Prop} (hs : aappN P d t u x y K s) :
    ∃ v w' G' s', (Builtin.append_ #[t, u] ty #[vx, vy]).run P w = .ok v w' ∧ K s' ∧ R n m G0 w0 s' G' (a.put (some d) v) w' := by
  unfold aappN at hs
  split at hs
  case h_2 => exact hs.elim
  rename_i k by_ id off len cp k3 k2 zs md ht
  split at hs
  case h_2 => exact hs.elim
  rename_i cs hid
  simp only [plainCells, flatC] at hs
  obtain ⟨⟨q1, q2, hne, hfit, hb, hb', hta, htb⟩, hs⟩ := hs
  subst q2
  subst q1
  have hk : 0 < k3 := by
    obtain ⟨_, _, _, _, _, _, _, _, _, t7⟩ := tap_spec ht
    exact t7
  have hidl : id < s.H.length := (List.getElem?_eq_some_iff.1 hid).1
  have hsrc : ∀ (H : List (List AVal)) (ds : List AVal) (c : Option Nat), H[id]? = some ds → off + len * k3 ≤ ds.length → asrc H (.osl id off len c k3) = some (k3, len, (ds.drop off).take (len * k3)) := by
    intro H ds c e1 e2
    simp only [asrc, e1, Option.bind_some]
    split
    · rename_i e; subst e; simp
    · rw [if_pos ⟨e2, hk⟩]
  have hta2 : ((cs.drop off).take (len * k3)).all (fun c => c.scalar && !c.isOwn) = true := by
    rw [List.all_eq_true] at hta ⊢
    intro c hc
    refine hta c ?_
    rw [show off + len * k3 = off + len * k3 from rfl, List.take_add]
    exact List.mem_append.2 (.inr hc)
  by_cases hz : zs.length = 0
  · rw [if_pos hz] at hs
    obtain rfl := List.length_eq_zero_iff.1 hz
    cases hx with
    | tree _ _ ht => cases ht
    | osl0 _ _ _ _ a0 hid' hc' =>
      have hx2 : Rep s.H.length G.r G.F (.osl id off 0 (some 0) k3) (.slice a0 0 0) := .osl0 id off (some 0) k3 a0 hid' (.inr rfl)
      have e : aappR P s d t t (.osl id off 0 (some 0) k3) (.sl k2 [] md) = some ⟨upd s.t d (.osl id off 0 (some 0) k3), s.H⟩ := by
        simp only [aappR, ht, hsrc _ _ _ hid hfit, acapOf]
        simp only [asrc, true_or, if_true, List.length_nil]
        rw [if_pos ⟨.inr trivial, hb, hb'⟩]
        simp
      obtain ⟨v, w', G', r1, r2⟩ := aappR_sound (P := P) h hd (t := t) (u := t) (ty := ty) hx2 hy e
      have r5 := r2.reslot hd (y := .osl id off 0 cp k3) (fun v hv => ?_) rfl
      · refine ⟨v, w', G', _, r1, hs, ?_⟩
        have et : upd (upd s.t d (.osl id off 0 (some 0) k3)) d (.osl id off 0 cp k3) = upd s.t d (.osl id off 0 cp k3) := by
          funext i
          simp only [upd]
          split <;> rfl
        simp only [et] at r5
        exact r5
      · simp only [upd, if_true] at hv
        cases hv with
        | osl0 _ _ _ _ a1 g1 g2 => exact .osl0 id off cp k3 a1 g1 hc'
        | tree _ _ ht => cases ht
        | osl _ _ _ _ _ c g1 g2 g3 g4 =>
          have hc0 : c = 0 := g3 0 rfl
          subst hc0
          exact .osl0 id off cp k3 _ g1 hc'
    | osl _ _ _ _ _ C hid' hlc hcap hroom =>
      have hx2 : Rep s.H.length G.r G.F (.osl id off len (some C) k3) (.slice (some ⟨(G.r id).1, off, none⟩) len C) := .osl id off len (some C) k3 C hid' hlc (by simp) hroom
      have e : aappR P s d t t (.osl id off len (some C) k3) (.sl k2 [] md) = some ⟨upd s.t d (.osl id off len (some C) k3), s.H⟩ := by
        simp only [aappR, ht, hsrc _ _ _ hid hfit, acapOf]
        simp only [asrc, true_or, if_true, List.length_nil]
        rw [if_pos ⟨.inr trivial, hb, hb'⟩, if_neg (by omega)]
      obtain ⟨v, w', G', r1, r2⟩ := aappR_sound (P := P) h hd (t := t) (u := t) (ty := ty) hx2 hy e
      have r5 := r2.reslot hd (y := .osl id off len cp k3) (fun v hv => ?_) rfl
      · refine ⟨v, w', G', _, r1, hs, ?_⟩
        have et : upd (upd s.t d (.osl id off len (some C) k3)) d (.osl id off len cp k3) = upd s.t d (.osl id off len cp k3) := by
          funext i
          simp only [upd]
          split <;> rfl
        simp only [et] at r5
        exact r5
      · simp only [upd, if_true] at hv
        cases hv with
        | osl0 _ _ _ _ a1 g1 g2 =>
          have hC0 : C = 0 := by
            rcases g2 with g2 | g2
            · cases g2
            · injection g2
          exact .osl0 id off cp k3 a1 g1 (by
            cases cp with
            | none => exact .inl rfl
            | some c' => exact .inr (by rw [← hcap c' rfl, hC0]))
        | tree _ _ ht => cases ht
        | osl _ _ _ _ _ c g1 g2 g3 g4 =>
          have hcc : c = C := g3 C rfl
          exact .osl _ _ _ _ _ c g1 g2 (fun c' e => by rw [hcc]; exact hcap c' e) g4
  rw [if_neg hz] at hs
  obtain ⟨q3, hsA, hsB⟩ := hs
  subst q3
  have h2 : 0 < zs.length := by omega
  cases hx with
  | tree _ _ ht => cases ht
  | osl0 _ _ _ _ a0 hid' hc' =>
    have hx2 : Rep s.H.length G.r G.F (.sl k2 [] .full) (.slice a0 0 0) := by
      cases a0 with
      | none => exact .tree _ _ (.slnil k2 .full)
      | some a => exact .tree _ _ (.sl k2 [] .full a 0 0 (fun _ => undef) rfl (Nat.le_refl _) (fun e => (e rfl).elim) (fun e => (e rfl).elim) (by simp) (by simp) (by simp) (by simp) (by simp))
    have e : aappR P s d t t (.sl k2 [] .full) (.sl k2 zs md) = some ⟨upd s.t d (.osl s.H.length 0 (0 + zs.length) none k2), s.H ++ [(cs.drop off).take (0 * k2) ++ zs.flatMap AVal.cells]⟩ := by
      simp only [aappR, ht, asrc, acapOf, List.length_nil, List.flatMap_nil]
      simp only [true_or, if_true]
      rw [if_pos ⟨trivial, hb, hb'⟩, if_pos (by omega)]
      simp [dis_all htb]
    obtain ⟨v, w', G', r1, r2⟩ := aappR_sound (P := P) h hd (t := t) (u := t) (ty := ty) hx2 hy e
    refine ⟨v, w', G', _, r1, hsB, ?_⟩
    have := r2.reH (H := (s.H ++ [(cs.drop off).take (0 * k2) ++ zs.flatMap AVal.cells]).set id []) (by simp) (r2.sr.kill id)
    rw [List.set_append_left _ _ hidl] at this
    exact this
  | osl _ _ _ _ _ C hid' hlc hcap hroom =>
    have hx2 : ∀ N, id < N → Rep N G.r G.F (.osl id off len (some C) k2) (.slice (some ⟨(G.r id).1, off, none⟩) len C) := fun N hN => .osl id off len (some C) k2 C hN hlc (by simp) hroom
    by_cases hC : C < len + zs.length
    · -- a new row
      have e : aappR P s d t t (.osl id off len (some C) k2) (.sl k2 zs md) = some ⟨upd s.t d (.osl s.H.length 0 (len + zs.length) none k2), s.H ++ [(cs.drop off).take (len * k2) ++ zs.flatMap AVal.cells]⟩ := by
        simp only [aappR, ht, hsrc _ _ _ hid hfit, acapOf]
        simp only [asrc, true_or, if_true]
        rw [if_pos ⟨trivial, hb, hb'⟩, if_pos hC, List.map_append, dis_all hta2, dis_all htb]
      obtain ⟨v, w', G', r1, r2⟩ := aappR_sound (P := P) h hd (t := t) (u := t) (ty := ty) (hx2 _ hidl) hy e
      refine ⟨v, w', G', _, r1, hsB, ?_⟩
      have := r2.reH (H := (s.H ++ [(cs.drop off).take (len * k2) ++ zs.flatMap AVal.cells]).set id []) (by simp) (r2.sr.kill id)
      rw [List.set_append_left _ _ hidl] at this
      exact this
    · -- the room is enough
      have hck : off + C * k2 ≤ (G.r id).2 := hroom
      obtain ⟨j, hj⟩ : ∃ j, off + C * k2 - cs.length = j := ⟨_, rfl⟩
      obtain ⟨cs', hcs'⟩ : ∃ cs', cs ++ List.replicate j AVal.undef = cs' := ⟨_, rfl⟩
      have hl' : cs'.length = cs.length + j := by rw [← hcs']; simp
      have h1 := h.reH (H := s.H.set id cs') (by simp) (by rw [← hcs']; exact h.sr.room hid hne j (by omega))
      have hid1 : (s.H.set id cs')[id]? = some cs' := by simp [hidl]
      have htk : cs'.take (off + len * k2) = cs.take (off + len * k2) := by rw [← hcs', List.take_append_of_le_length hfit]
      have hmul : (len + zs.length) * k2 ≤ C * k2 := Nat.mul_le_mul_right _ (by omega)
      have hfit1 : off + len * k2 ≤ cs'.length := by omega
      have hfit2 : off + (len + zs.length) * k2 ≤ cs'.length := by omega
      have hsc : (zs.flatMap AVal.cells).all AVal.scalar = true := List.all_eq_true.2 fun y hy => by
        have := List.all_eq_true.1 htb y hy
        simp only [Bool.and_eq_true] at this
        exact this.1
      obtain ⟨ds, hds⟩ : ∃ ds, setR cs' (off + len * k2) (zs.flatMap AVal.cells) = ds := ⟨_, rfl⟩
      have e : aappR P ⟨s.t, s.H.set id cs'⟩ d t t (.osl id off len (some C) k2) (.sl k2 zs md) = some ⟨upd s.t d (.osl id off (len + zs.length) (some C) k2), (s.H.set id cs').set id ds⟩ := by
        have hz0 : ¬ zs.length = 0 := by omega
        simp only [aappR, ht, hsrc _ _ _ hid1 hfit1, acapOf, hid1]
        simp only [asrc, true_or, if_true]
        rw [if_pos ⟨trivial, hb, hb'⟩, if_neg hC, if_neg hz0, if_pos ⟨hfit2, hsc⟩, dis_all htb, hds]
      obtain ⟨v, w', G', r1, r2⟩ := aappR_sound (P := P) h1 hd (t := t) (u := t) (ty := ty) (hx2 _ (by simpa using hidl)) (by simpa using hy) e
      have hlenH : ((s.H.set id cs').set id ds).length = s.H.length := by simp
      have r3 := r2.adopt (p := id) (cs := ds) (by simp [hidl])
      simp only [hlenH] at r3
      have fl : (zs.flatMap AVal.cells).length = zs.length * k2 := by
        obtain ⟨_, _, _, _, _, _, f4, _⟩ := asrc_sound h hy (show asrc s.H (.sl k2 zs md) = some (k2, zs.length, zs.flatMap AVal.cells) from rfl)
        exact f4
      have hsum : off + len * k2 + zs.length * k2 ≤ cs'.length := by rw [Nat.add_mul] at hfit2; omega
      have hdl : (cs.take (off + len * k2) ++ zs.flatMap AVal.cells).length ≤ ds.length ∧ ∀ (q : Nat) (x : AVal), (cs.take (off + len * k2) ++ zs.flatMap AVal.cells)[q]? = some x → ds[q]? = some x := by
        rw [← hds]
        refine ⟨by rw [setR_length, List.length_append, fl, List.length_take]; omega, fun q x hq => ?_⟩
        rw [setR_get _ _ _ _ (by rw [fl]; exact hsum), fl]
        have htl : (cs.take (off + len * k2)).length = off + len * k2 := by rw [List.length_take]; omega
        by_cases hq1 : q < off + len * k2
        · rw [List.getElem?_append_left (by omega), ← htk, List.getElem?_take_of_lt hq1] at hq
          rw [if_neg (by omega)]
          exact hq
        · rw [List.getElem?_append_right (by omega), htl] at hq
          have := (List.getElem?_eq_some_iff.1 hq).1
          rw [if_pos ⟨by omega, by omega⟩]
          exact hq
      have hlast : ((((s.H.set id cs').set id ds).set id [] ++ [ds]))[s.H.length]? = some ds := by
        rw [List.getElem?_append_right (by simp)]
        simp
      have r4 := r3.reH (H := ((((s.H.set id cs').set id ds).set id [] ++ [ds])).set s.H.length (cs.take (off + len * k2) ++ zs.flatMap AVal.cells)) (by simp) (r3.sr.short hlast hdl.2 hdl.1 (by
        intro e0
        have := hdl.1
        have hzp : 0 < zs.length * k2 := Nat.mul_pos h2 hk
        rw [e0, List.length_append, List.length_take, fl] at this
        simp only [List.length_nil] at this
        omega))
      have r5 := r4.reslot hd (y := .osl s.H.length off (len + zs.length) none k2) (fun v hv => ?_) rfl
      · refine ⟨v, w', G'.adopt id s.H.length, _, r1, hsA, ?_⟩
        have eH : ((((s.H.set id cs').set id ds).set id [] ++ [ds])).set s.H.length (cs.take (off + len * k2) ++ zs.flatMap AVal.cells) = s.H.set id [] ++ [cs.take (off + len * k2) ++ zs.flatMap AVal.cells] := by
          rw [List.set_append_right _ _ (by simp)]
          simp
        have et : upd (upd s.t d (.osl id off (len + zs.length) (some C) k2)) d (.osl s.H.length off (len + zs.length) none k2) = upd s.t d (.osl s.H.length off (len + zs.length) none k2) := by
          funext i
          simp only [upd]
          split <;> rfl
        rw [eH] at r5
        simp only [et] at r5
        exact r5
      · simp only [upd, if_true] at hv
        obtain ⟨L, hL⟩ : ∃ L, len + zs.length = L := ⟨_, rfl⟩
        rw [hL] at hv ⊢
        have hL0 : L ≠ 0 := by omega
        cases hv with
        | osl0 => exact (hL0 rfl).elim
        | tree _ _ ht => cases ht
        | osl _ _ _ _ _ c g1 g2 g3 g4 =>
          have er : (G'.adopt id s.H.length).r s.H.length = (G'.adopt id s.H.length).r id := by
            simp only [Gh.adopt, if_true]
            rw [if_neg (by omega)]
          rw [← er] at g4 ⊢
          exact .osl _ _ _ _ _ c (by simp) g2 (by simp) g4
end

/-- A region, operation by operation; the append at slot q is one of a row anywhere in its block. -/
def awpN (P : Program) (tr : List Nat) (q : Nat) (all : Array Oper) : List Oper → (ASt → Prop) → ASt → Prop
  | [], K, s => K s
  | o :: os, K, s =>
    if o.dst = some q then
      match o.op, o.guard with
      | .call c, none => match c.callee, c.args.toList, c.argTypes.toList with
        | .builtin .append, [x, y], [t, u] => aappN P q t u (av s.t x) (av s.t y) (awpN P tr q all os K) s
        | _, _, _ => False
      | _, _ => False
    else awpOps P tr none all [o] (awpN P tr q all os K) s

section
variable {P : Program} {tr : List Nat} {all : Array Oper} {n m : Nat} {G0 : Gh} {w0 : World}
theorem awpN_sound {q : Nat} {K : ASt → Prop} {Q : Exit → Act → World → Prop} : ∀ (os : List Oper) (i0 : Nat) (s : ASt) (G : Gh) (a : Act) (w : World), all.toList.drop i0 = os → dstsOk n os = true → awpN P tr q all os K s → R n m G0 w0 s G a w →
    (∀ s' a' w' G', K s' → R n m G0 w0 s' G' a' w' → Q .normal a' w') → wpOps P all Q (List.range' i0 os.length) a w := by
  intro os
  induction os with
  | nil => intro i0 s G a w _ _ hr h hQ; exact hQ _ _ _ _ hr h
  | cons o os ih =>
    intro i0 s G a w he hd hr h hQ
    have ho : all[i0]? = some o := by
      have : (all.toList.drop i0)[0]? = some o := by rw [he]; rfl
      simpa using this
    have he' : all.toList.drop (i0 + 1) = os := by
      rw [← List.drop_drop, he]; rfl
    simp only [List.length_cons, List.range'_succ]
    rw [wpOps_cons]
    have hdo := dstsOk_get (os := o :: os) hd (o := o) (by simp)
    have hd2 : dstsOk n os = true := by
      simp only [dstsOk, List.all_cons, Bool.and_eq_true] at hd
      exact hd.2
    unfold awpN at hr
    split at hr
    · rename_i hdq
      split at hr
      case h_2 => exact hr.elim
      rename_i c hop hg
      split at hr
      case h_2 => exact hr.elim
      rename_i x y t u hc e1 e2
      have a1 : c.args = #[x, y] := by rw [← Array.toArray_toList (xs := c.args), e1]
      have a2 : c.argTypes = #[t, u] := by rw [← Array.toArray_toList (xs := c.argTypes), e2]
      obtain ⟨v, w', G', s', r1, r2, r3⟩ := aappN_sound (P := P) h (hdo q hdq) (t := t) (u := u) (ty := o.type) (h.get x) (h.get y) hr
      unfold wpOp
      rw [ho]
      simp only
      have hw : Region.wanted o (yielded all a.tmps) = true := by simp [Region.wanted, hg]
      rw [if_pos hw]
      refine .inl ?_
      unfold Oper.wp
      have hrun : (execOp a.eval o).run P w = .ok (.value v) w' := by simp [execOp, hop, resolve, hc, invoke, builtin, a1, a2, r1]
      rw [hrun]
      rw [← hdq] at r3
      exact ih (i0 + 1) s' G' _ w' he' hd2 r2 r3 hQ
    · obtain ⟨s1, h1, h2⟩ := awpOps_run _ _ _ hr
      obtain ⟨s2, h3, h4⟩ := h1
      have h4' : s2 = s1 := h4
      subst h4'
      exact step1_sound (d := none) (fun _ _ _ h => h) h ho hdo h3 (fun a' w' G' hR => ih (i0 + 1) s2 G' a' w' he' hd2 h2 hR hQ)
theorem SWp_app {q id : Nat} {ops : Array Oper} {Q : APost} {s : ASt} (hd : dstsOk n ops.toList = true) (h : awpN P tr q ops ops.toList (Q .normal) s) : SWp P n m (.region id ops false) Q s := by
  intro G0 w0 G a w hR
  refine wp_region ?_
  have := awpN_sound (Q := conc n m G0 w0 Q) ops.toList 0 s G a w (by simp) hd h hR (fun s' a' w' G' hk hR' => ⟨s', G', hR', hk⟩)
  rw [List.range_eq_range']
  simpa using this
theorem SWp_of {Q : APost} {c : Code} {s : ASt} (hmx : P.follows .mixedOrders = true) (hg : good tr n c = true) (h : awp P tr n m c Q s) : SWp P n m c Q s := awp_sound hmx c Q s hg h
theorem SWp_seq {x y : Code} {Q : APost} {s : ASt} (h : SWp P n m x (thenK (SWp P n m y Q) Q) s) : SWp P n m (x.seq y) Q s := by
  intro G0 w0 G a w hR
  refine wp_seq (wp_mono (h G0 w0 G a w hR) ?_)
  intro e a' w' he
  cases e with
  | normal => obtain ⟨s', G', hR', hk⟩ := he; exact hk G0 w0 G' a' w' hR'
  | exit id => exact he
  | ret => exact he
  | goto l => exact he
  | panic c => exact he
  | outgrown => exact he
end
theorem SWp_block {P : Program} {n m : Nat} {id : Nat} {c : Code} {Q : APost} {s : ASt} (h : SWp P n m c (blkK id Q) s) : SWp P n m (.block id c) Q s := by
  intro G0 w0 G a w hR
  refine wp_block (wp_mono (h G0 w0 G a w hR) ?_)
  intro e a' w' he
  cases e with
  | normal => exact he
  | exit i =>
    obtain ⟨s', G', hR', hk⟩ := he
    simp only [blkK] at hk
    simp only [Exit.inBlock]
    split at hk
    · rename_i e; rw [if_pos e]; exact ⟨s', G', hR', hk⟩
    · rename_i e; rw [if_neg e]; exact ⟨s', G', hR', hk⟩
  | ret => exact he
  | goto l => exact he
  | panic c => exact he
  | outgrown => exact he
/-- A loop whose round is known by what it does. -/
theorem LoopK.introSW {P : Program} {n m : Nat} {body : Code} {Q : APost} {s : ASt} {ι : Type} (T : ι → List (Nat × AVal)) (H : ι → List (List AVal)) (Inv : ι → Prop) (f : ι → Nat) (i0 : ι)
    (h0 : Inv i0) (hle : Le m s (T i0) (H i0)) (hround : ∀ i, Inv i → SWp P n m body (LoopPostS m T H Inv f (f i) Q) ⟨look (T i), H i⟩) : LoopK P n m body Q s := by
  intro G0 w0 G a w hR
  refine wp_loop_ix (fun k a w => ∃ i G, f i = k ∧ Inv i ∧ R n m G0 w0 ⟨look (T i), H i⟩ G a w) (f i0) ⟨i0, G, rfl, h0, hR.weaken hle.st⟩ ?_
  rintro k a w ⟨i, G, rfl, hi, hR⟩
  refine wp_mono (hround i hi G0 w0 G a w hR) ?_
  intro e a' w' he
  cases e with
  | normal =>
    obtain ⟨s', G', hR', j, hj, hlt, hle'⟩ := he
    rcases hle' with hle' | ⟨p, q, q1, q2, q3, q4, q5, q6, q7⟩
    · exact ⟨f j, hlt, j, G', rfl, hj, hR'.weaken hle'.st⟩
    · obtain ⟨G2, hR2⟩ := hR'.swapLe q1 q2 q3 q4 q5 q6 q7
      exact ⟨f j, hlt, j, G2, rfl, hj, hR2⟩
  | exit id => exact he
  | ret => exact he
  | goto l => exact he
  | panic c => exact he
  | outgrown => exact he
end Go.Am
