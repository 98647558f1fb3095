/- The abstract machine, part thirty-six: variables that are known by their numbers alone (Holds); rows with nothing in them; freezing at a place that is told by a number. -/
import Derived.Test.YthonenmafbpbkaaBmAI
namespace Go.Am
open Go

section
variable {P : Program} {n m : Nat} {G0 : Gh} {w0 : World} {s : ASt} {G : Gh} {a : Act} {w : World}

theorem SR.cellW {H : List (List AVal)} (h : SR G H w) {b j : Nat} {y x : AVal} {cb : List AVal} (hb : H[b]? = some cb) (hy : cb[j]? = some y) (hx : ∀ v, Rep H.length G.r G.F y v → Rep H.length G.r G.F x v) (ho : x.isOwn = false) : SR G (H.set b (cb.set j x)) w := by
  refine ⟨h.frz, fun id cs hid hne => ?_, h.new⟩
  have hbl : b < H.length := (List.getElem?_eq_some_iff.1 hb).1
  have hjl : j < cb.length := (List.getElem?_eq_some_iff.1 hy).1
  rw [List.length_set]
  rw [List.getElem?_set] at hid
  by_cases e : b = id
  · subst e
    rw [if_pos rfl, if_pos hbl] at hid
    injection hid with hid
    subst hid
    have hcne : cb ≠ [] := by rintro rfl; simp at hjl
    obtain ⟨c, T, h1, h2, h3, h4, h5⟩ := h.box b cb hb hcne
    refine ⟨c, T, h1, by simpa using h2, h3, h4, fun q z v hz hv => ?_⟩
    rw [List.getElem?_set] at hz
    by_cases e2 : j = q
    · subst e2
      rw [if_pos rfl, if_pos hjl] at hz
      injection hz with hz
      subst hz
      exact ⟨hx v (h5 j y v hy hv).1, OwnAt.of_not ho⟩
    · rw [if_neg e2] at hz
      exact h5 q z v hz hv
  · rw [if_neg e] at hid
    exact h.box id cs hid hne
theorem SR.dead {H : List (List AVal)} (h : SR G H w) (i : Nat) : SR G (H.set i []) w := by
  refine ⟨h.frz, fun id cs hid hne => ?_, h.new⟩
  rw [List.length_set]
  rw [List.getElem?_set] at hid
  split at hid
  · split at hid
    · injection hid with hid; exact absurd hid.symm hne
    · cases hid
  · exact h.box id cs hid hne
theorem SR.pad {H : List (List AVal)} (h : SR G H w) : SR G (H ++ [[]]) w := by
  refine ⟨h.frz, fun id cs hid hne => ?_, h.new⟩
  have hlt : id < H.length := by
    by_cases e : id < H.length
    · exact e
    · exfalso
      have h1 := (List.getElem?_eq_some_iff.1 hid).1
      simp at h1
      have : id = H.length := by omega
      subst this
      simp at hid
      exact hne hid
  rw [List.getElem?_append_left hlt] at hid
  obtain ⟨c, T, h1, h2, h3, h4, h5⟩ := h.box id cs hid hne
  exact ⟨c, T, h1, h2, h3, h4, fun j x v hx hv => ⟨(h5 j x v hx hv).1.mono (by simp) (fun _ _ => rfl) (Frz.le.refl _), (h5 j x v hx hv).2⟩⟩
theorem R.heap (h : R n m G0 w0 s G a w) {H' : List (List AVal)} (hl : H'.length = s.H.length) (hs : SR G H' w) : R n m G0 w0 ⟨s.t, H'⟩ G a w :=
  ⟨h.sz, h.out, h.dfr0, h.clean, h.ext, by show m ≤ H'.length; rw [hl]; exact h.hm, hs, fun i v hv => by show Rep H'.length _ _ _ _ ∧ _; rw [hl]; exact h.tmp i v hv⟩
theorem Sim.cellW {b j : Nat} {y x : AVal} {cb : List AVal} (hb : s.H[b]? = some cb) (hy : cb[j]? = some y) (hx : ∀ r F v, Rep s.H.length r F y v → Rep s.H.length r F x v) (ho : x.isOwn = false) : Sim n m s ⟨s.t, s.H.set b (cb.set j x)⟩ :=
  fun _ _ G _ _ h => ⟨G, h.heap (by simp) (h.sr.cellW hb hy (hx _ _) ho)⟩
theorem Sim.dead (i : Nat) : Sim n m s ⟨s.t, s.H.set i []⟩ := fun _ _ G _ _ h => ⟨G, h.heap (by simp) (h.sr.dead i)⟩
theorem LeW.dead (H : List (List AVal)) (i : Nat) : LeW H (H.set i []) := fun _ _ h => h.dead i

/-- A row with nothing in it is data. -/
theorem osl0_sl {N : Nat} {r : Nat → Nat × Nat} {F : Frz} {u off k k' : Nat} {cap : Option Nat} {v : Value} (h : Rep N r F (.osl u off 0 cap k) v) : Rep N r F (.sl k' [] .sh) v := by
  cases h with
  | tree _ _ ht => cases ht
  | osl _ _ _ _ _ c h hc hcap hroom => exact .tree _ _ (.sl k' [] .sh _ 0 c (fun _ => undef) rfl hc (fun e => (e rfl).elim) (fun e => (e rfl).elim) (by simp) (by simp) (by simp) (by simp) (by simp))
  | osl0 _ _ _ _ ad h hc =>
    cases ad with
    | none => exact .tree _ _ (.slnil k' .sh)
    | some ad => exact .tree _ _ (.sl k' [] .sh ad 0 0 (fun _ => undef) rfl (Nat.le_refl _) (fun e => (e rfl).elim) (fun e => (e rfl).elim) (by simp) (by simp) (by simp) (by simp) (by simp))
/-- Data with nothing in it, of no room, is a row of whatever variable. -/
theorem sl_osl0 {N : Nat} {r : Nat → Nat × Nat} {F : Frz} {u off k k' : Nat} {v : Value} (hu : u < N) (h : Rep N r F (.sl k [] .full) v) : Rep N r F (.osl u off 0 none k') v := by
  cases h with
  | tree _ _ ht =>
    cases ht with
    | slnil => exact .osl0 u off none k' none hu (.inl rfl)
    | sl _ _ _ ad len cap val hl hc ha hk hm hx h1 hF h =>
      have e1 : len = 0 := by simpa using hl
      have e2 : cap = len := hm rfl
      subst e2
      subst e1
      exact .osl0 u off none k' (some ad) hu (.inl rfl)
/-- A call that gives back nothing: as a row of a variable of its own. -/
theorem CFun.empty {f : FuncId} {args : List AVal} {H H' : List (List AVal)} {k k' : Nat} (h : CFun P f args H (.sl k [] .full) H') : CFun P f args H (.osl H'.length 0 0 none k') (H' ++ [[]]) := by
  refine ⟨h.1, fun G w cargs h1 h2 h3 h4 h5 => (h.2 G w cargs h1 h2 h3 h4 h5).mono ?_⟩
  rintro e w' ⟨v, G', rfl, g1, g2, g3, g4, g5, g6⟩
  exact ⟨v, G', rfl, g1, g2.pad, sl_osl0 (by simp) (g3.mono (by simp) (fun _ _ => rfl) (Frz.le.refl _)), OwnAt.of_not rfl, g5, by simp; omega⟩

theorem Sim.freezeC (id bid j0 : Nat) (ag fu : Bool) {cs0 cb : List AVal} {y0 : AVal} (hid : s.H[id]? = some cs0) (hne : cs0 ≠ []) (hbid : s.H[bid]? = some cb) (hy0 : cb[j0]? = some y0) (hbi : bid ≠ id) (ht : cs0.all AVal.tree = true) :
    Sim n m s ⟨s.t, (s.H.set id []).set bid (cb.set j0 (frzV id cs0 ag fu y0))⟩ := fun _ _ _ _ _ h =>
  h.freezeC id bid j0 ag fu (cs := cs0) hid hne hbid hy0 hbi (fun _ _ h => h) (Nat.le_refl _) ht
theorem Sim.freezeT (id i : Nat) (ag fu : Bool) {cs0 : List AVal} (hid : s.H[id]? = some cs0) (hne : cs0 ≠ []) (ht : cs0.all AVal.tree = true) :
    Sim n m s ⟨upd s.t i (frzV id cs0 ag fu (s.t i)), s.H.set id []⟩ := fun _ _ _ _ _ h =>
  h.freeze id i ag fu (cs := cs0) hid hne (fun _ _ h => h) (Nat.le_refl _) ht
/-- A row in a cell becomes data. -/
theorem Sim.frzRowC {α : Type} {ce : α → List AVal} {k : Nat} (E : Enc ce k) {l : List α} {u b j : Nat} {cb : List AVal} (hu : s.H[u]? = some (rowC ce l)) (hb : s.H[b]? = some cb) (hj : cb[j]? = some (.osl u 0 l.length none k)) (hub : u ≠ b) :
    Sim n m s ⟨s.t, (s.H.set u []).set b (cb.set j (.sl k (l.map fun x => .agg (ce x)) .sh))⟩ := by
  have hbu : b ≠ u := fun e => hub e.symm
  cases l with
  | nil =>
    have h1 : Sim n m s ⟨s.t, s.H.set u []⟩ := Sim.dead u
    refine h1.trans ?_
    refine Sim.cellW (s := ⟨s.t, s.H.set u []⟩) (y := .osl u 0 0 none k) (by show (s.H.set u [])[b]? = _; rw [List.getElem?_set_ne hub]; exact hb) hj (fun r F v h => osl0_sl h) rfl
  | cons x l =>
    have hne : rowC ce (x :: l) ≠ [] := by
      intro e
      have := E.rowLen (x :: l)
      rw [e] at this
      have hp := E.pos
      simp only [List.length_nil, List.length_cons] at this
      have : 0 < (l.length + 1) * k := Nat.mul_pos (by omega) hp
      omega
    have h1 := Sim.freezeC (n := n) (m := m) u b j true false hu hne hb hj hbu (E.rowTree _)
    have e : frzV u (rowC ce (x :: l)) true false (.osl u 0 (x :: l).length none k) = .sl k ((x :: l).map fun x => .agg (ce x)) .sh := by
      simp only [frzV, frz1]
      rw [if_pos ⟨trivial, by rw [E.rowLen]; omega, E.pos, .inl trivial⟩, E.chunk _ _ rfl]
      rfl
    rwa [e] at h1
/-- A row in a slot becomes data. -/
theorem Sim.frzRowT {α : Type} {ce : α → List AVal} {k : Nat} (E : Enc ce k) {l : List α} {u i : Nat} {cap : Option Nat} (hu : s.H[u]? = some (rowC ce l)) (hj : s.t i = .osl u 0 l.length cap k) (hne : l ≠ []) :
    Sim n m s ⟨upd s.t i (.sl k (l.map fun x => .agg (ce x)) .sh), s.H.set u []⟩ := by
  cases l with
  | nil => exact absurd rfl hne
  | cons x l =>
    have hne : rowC ce (x :: l) ≠ [] := by
      intro e
      have := E.rowLen (x :: l)
      rw [e] at this
      have hp := E.pos
      simp only [List.length_nil, List.length_cons] at this
      have : 0 < (l.length + 1) * k := Nat.mul_pos (by omega) hp
      omega
    have h1 := Sim.freezeT (n := n) (m := m) (s := s) u i true false hu hne (E.rowTree _)
    have e : frzV u (rowC ce (x :: l)) true false (.osl u 0 (x :: l).length cap k) = .sl k ((x :: l).map fun x => .agg (ce x)) .sh := by
      simp only [frzV, frz1]
      rw [if_pos ⟨trivial, by rw [E.rowLen]; omega, E.pos, .inl trivial⟩, E.chunk _ _ rfl]
      rfl
    rw [hj, e] at h1
    exact h1
end

/-- Less is known of the variables behind a call. -/
theorem CFun.postW {P : Program} {f : FuncId} {args : List AVal} {H : List (List AVal)} {x : AVal} {H' H'' : List (List AVal)} (h : CFun P f args H x H') (hl : H''.length = H'.length) (hw : LeW H' H'') : CFun P f args H x H'' := by
  refine ⟨h.1, fun G w cargs h1 h2 h3 h4 h5 => (h.2 G w cargs h1 h2 h3 h4 h5).mono ?_⟩
  rintro e w' ⟨v, G', rfl, g1, g2, g3, g4, g5, g6⟩
  exact ⟨v, G', rfl, g1, hw _ _ g2, by rw [hl]; exact g3, g4, g5, by omega⟩
theorem LeW.of_le {H H' : List (List AVal)} (h : LeBoxes H'.length H H') : LeW H H' := fun G w hs => hs.weaken (s := ⟨fun _ => .undef, H⟩) (s' := ⟨fun _ => .undef, H'⟩) (LeBoxes_st h)
theorem set_same {H : List (List AVal)} {u : Nat} {c : List AVal} (h : H[u]? = some c) : H.set u c = H := by
  apply List.ext_getElem?
  intro i
  rw [List.getElem?_set]
  by_cases e : u = i
  · subst e
    rw [if_pos rfl, if_pos (List.getElem?_eq_some_iff.1 h).1, h]
  · rw [if_neg e]
@[simp] theorem LoopPostP_exit {n m : Nat} {Inv : Nat → ASt → Prop} {μ i : Nat} {Q : APost} {s : ASt} : LoopPostP n m Inv μ Q (.exit i) s = Q (.exit i) s := Eq.trans rfl rfl
@[simp] theorem LoopPostP_ret {n m : Nat} {Inv : Nat → ASt → Prop} {μ : Nat} {Q : APost} {s : ASt} : LoopPostP n m Inv μ Q .ret s = Q .ret s := Eq.trans rfl rfl
@[simp] theorem LoopPostP_normal {n m : Nat} {Inv : Nat → ASt → Prop} {μ : Nat} {Q : APost} {s : ASt} : LoopPostP n m Inv μ Q .normal s = ∃ s' j, Sim n m s s' ∧ j < μ ∧ Inv j s' := Eq.trans rfl rfl
/-- These variables hold these cells. -/
def Holds (H : List (List AVal)) (L : List (Nat × List AVal)) : Prop := (L.map (·.1)).Nodup ∧ ∀ p ∈ L, H[p.1]? = some p.2
theorem Holds.get {H : List (List AVal)} {L : List (Nat × List AVal)} (h : Holds H L) {id : Nat} {c : List AVal} (hm : (id, c) ∈ L) : H[id]? = some c := h.2 _ hm
theorem Holds.lt {H : List (List AVal)} {L : List (Nat × List AVal)} (h : Holds H L) {id : Nat} {c : List AVal} (hm : (id, c) ∈ L) : id < H.length := (List.getElem?_eq_some_iff.1 (h.2 _ hm)).1
theorem Holds.perm {H : List (List AVal)} {L L' : List (Nat × List AVal)} (h : Holds H L) (hp : L.Perm L') : Holds H L' :=
  ⟨(hp.map _).nodup_iff.1 h.1, fun p hm => h.2 p (hp.mem_iff.2 hm)⟩
theorem Holds.sub {H : List (List AVal)} {L L' : List (Nat × List AVal)} (h : Holds H L) (hp : L'.Sublist L) : Holds H L' :=
  ⟨h.1.sublist (hp.map _), fun p hm => h.2 p (hp.subset hm)⟩
theorem Holds.snoc {H : List (List AVal)} {L : List (Nat × List AVal)} (h : Holds H L) (Z : List (List AVal)) : Holds (H ++ Z) L :=
  ⟨h.1, fun p hm => by rw [List.getElem?_append_left (List.getElem?_eq_some_iff.1 (h.2 p hm)).1]; exact h.2 p hm⟩
theorem Holds.mid {H : List (List AVal)} {L1 L2 : List (Nat × List AVal)} {id : Nat} {c : List AVal} (h : Holds H (L1 ++ (id, c) :: L2)) : H[id]? = some c ∧ (∀ p ∈ L1, p.1 ≠ id) ∧ ∀ p ∈ L2, p.1 ≠ id := by
  obtain ⟨h1, h2⟩ := h
  simp only [List.map_append, List.map_cons, List.nodup_append, List.nodup_cons] at h1
  obtain ⟨_, ⟨h3, _⟩, h4⟩ := h1
  refine ⟨h2 (id, c) (by simp), fun p hp e => h4 p.1 (List.mem_map.2 ⟨p, hp, rfl⟩) id (by simp) e, fun p hp e => h3 (e ▸ List.mem_map.2 ⟨p, hp, rfl⟩)⟩
theorem Holds.set {H : List (List AVal)} {L1 L2 : List (Nat × List AVal)} {id : Nat} {c : List AVal} (h : Holds H (L1 ++ (id, c) :: L2)) (c' : List AVal) : Holds (H.set id c') (L1 ++ (id, c') :: L2) := by
  obtain ⟨m1, m2, m3⟩ := h.mid
  obtain ⟨h1, h2⟩ := h
  refine ⟨by simpa using h1, fun p hp => ?_⟩
  have hlt : id < H.length := (List.getElem?_eq_some_iff.1 m1).1
  rcases List.mem_append.1 hp with hp | hp
  · rw [List.getElem?_set_ne (fun e => m2 p hp e.symm)]
    exact h2 p (by simp [hp])
  · rcases List.mem_cons.1 hp with rfl | hp
    · simp [hlt]
    · rw [List.getElem?_set_ne (fun e => m3 p hp e.symm)]
      exact h2 p (by simp [hp])
theorem Holds.new {H : List (List AVal)} {L1 L2 : List (Nat × List AVal)} (h : Holds H (L1 ++ L2)) (c : List AVal) (Z : List (List AVal)) : Holds (H ++ c :: Z) (L1 ++ (H.length, c) :: L2) := by
  have hne : ∀ p ∈ L1 ++ L2, p.1 ≠ H.length := fun p hp e => by
    have := (List.getElem?_eq_some_iff.1 (h.2 p hp)).1
    omega
  refine ⟨?_, fun p hp => ?_⟩
  · have h1 := h.1
    have : ((H.length, c) :: (L1 ++ L2)).Perm (L1 ++ (H.length, c) :: L2) := (List.perm_middle).symm
    refine (this.map _).nodup_iff.1 ?_
    rw [List.map_cons, List.nodup_cons]
    exact ⟨fun hm => by obtain ⟨p, hp, e⟩ := List.mem_map.1 hm; exact hne p hp e, h1⟩
  · have old : ∀ p ∈ L1 ++ L2, (H ++ c :: Z)[p.1]? = some p.2 := fun p hp => by
      rw [List.getElem?_append_left (List.getElem?_eq_some_iff.1 (h.2 p hp)).1]
      exact h.2 p hp
    rcases List.mem_append.1 hp with hp | hp
    · exact old p (by simp [hp])
    · rcases List.mem_cons.1 hp with rfl | hp
      · simp
      · exact old p (by simp [hp])
/-- A row that has moved. -/
theorem Holds.move {H : List (List AVal)} {L1 L2 : List (Nat × List AVal)} {id : Nat} {c : List AVal} (h : Holds H (L1 ++ (id, c) :: L2)) (c' : List AVal) (Z : List (List AVal)) : Holds (H.set id [] ++ c' :: Z) (L1 ++ (H.length, c') :: L2) := by
  have h1 := (h.set []).sub (L' := L1 ++ L2) (List.Sublist.append (List.Sublist.refl _) (List.sublist_cons_self _ _))
  have := h1.new c' Z
  rwa [List.length_set] at this
theorem LeW.und {H : List (List AVal)} {id : Nat} {cs : List AVal} (hid : H[id]? = some cs) (hne : cs ≠ []) : LeW H (H.set id [.undef]) := by
  intro G w h
  refine ⟨h.frz, fun i cs' hi hne' => ?_, h.new⟩
  have hl : id < H.length := (List.getElem?_eq_some_iff.1 hid).1
  rw [List.length_set]
  rw [List.getElem?_set] at hi
  by_cases e : id = i
  · subst e
    rw [if_pos rfl, if_pos hl] at hi
    injection hi with hi
    subst hi
    obtain ⟨c, T, h1, h2, h3, h4, h5⟩ := h.box id cs hid hne
    have h0 := List.length_pos_iff.2 hne
    refine ⟨c, T, h1, ⟨by simp; omega, h2.2⟩, h3, h4, fun j x v hx hv => ?_⟩
    cases j with
    | zero => simp at hx; subst hx; exact ⟨.undef v, OwnAt.of_not rfl⟩
    | succ j => simp at hx
  · rw [if_neg e] at hi
    exact h.box i cs' hi hne'
theorem Holds.two {H Z : List (List AVal)} {L : List (Nat × List AVal)} (h : Holds H L) {i j : Nat} {c d : List AVal} (hi : Z[i]? = some c) (hj : Z[j]? = some d) (hij : i ≠ j) : Holds (H ++ Z) (L ++ [(H.length + i, c), (H.length + j, d)]) := by
  have hlt : ∀ p ∈ L, p.1 < H.length := fun p hp => (List.getElem?_eq_some_iff.1 (h.2 p hp)).1
  have hnm : ∀ q, H.length + q ∉ L.map (·.1) := fun q hq => by
    obtain ⟨p, hp, e⟩ := List.mem_map.1 hq
    have := hlt p hp
    have e : p.1 = H.length + q := e
    omega
  refine ⟨?_, fun p hp => ?_⟩
  · rw [List.map_append, List.nodup_append]
    refine ⟨h.1, by simp; omega, fun x hx y hy e => ?_⟩
    subst e
    simp at hy
    rcases hy with rfl | rfl
    · exact hnm i hx
    · exact hnm j hx
  · rcases List.mem_append.1 hp with hp | hp
    · rw [List.getElem?_append_left (hlt p hp)]
      exact h.2 p hp
    · simp at hp
      rcases hp with rfl | rfl
      · simp only
        rw [List.getElem?_append_right (by omega), Nat.add_sub_cancel_left]
        exact hi
      · simp only
        rw [List.getElem?_append_right (by omega), Nat.add_sub_cancel_left]
        exact hj
end Go.Am
