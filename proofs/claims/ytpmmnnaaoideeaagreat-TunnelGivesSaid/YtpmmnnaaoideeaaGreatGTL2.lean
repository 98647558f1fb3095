/- What the reference keeps are the least walks of so many steps. No program. -/
import Derived.Test.YtpmmnnaaoideeaaGreatGTC51
import Derived.Test.YtpmmnnaaoideeaaGreatGT1
import Derived.Test.YtpmmnnaaoideeaaGreatAmAF
set_option linter.unusedSimpArgs false
set_option linter.unusedVariables false
namespace Go.Proofs.YtpmmnnaaoideeaaGreat
open Go Go.Am Go.Wk

def ndI (l : List Nat) : List Int := l.map fun x : Nat => (x : Int)
theorem cmpI_lt : ∀ (a b : List Nat), cmpI (ndI a) (ndI b) < 0 ↔ lexlt a b
  | [], [] => by simp [ndI, cmpI, lexlt]
  | [], _ :: _ => by simp [ndI, cmpI, lexlt]
  | _ :: _, [] => by simp [ndI, cmpI, lexlt]
  | x :: a, y :: b => by
    have ih := cmpI_lt a b
    unfold ndI at ih ⊢
    simp only [List.map_cons, cmpI, lexlt]
    rw [← ih]
    split
    · omega
    · split
      · omega
      · omega
theorem cmpI_cons (x : Int) (a b : List Int) : cmpI (x :: a) (x :: b) = cmpI a b := by simp [cmpI]
/-- A walk of the reference is a walk of states. -/
structure RW (E : List Arc) (fr n x0 : Nat) (h : Nat) (w : Wlk) (ys : List Nat) (s c : Nat) : Prop where
  wk : W E x0 ys c s
  len : ys.length = h
  N : w.N = (fr : Int) :: ndI (ys.map (· % n))
  C : w.C = c
  D : w.D = s / n
  L : lastW w = ((s % n : Nat) : Int)
theorem RW.code {E : List Arc} {fr n x0 h : Nat} {w : Wlk} {ys : List Nat} {s c : Nat} (r : RW E fr n x0 h w ys s c) : codeW n w = s := by
  unfold codeW
  rw [r.D, r.L, Int.toNat_natCast, Nat.mul_comm]
  exact Nat.div_add_mod s n
theorem RW.okw {E : List Arc} {fr n x0 h t : Nat} {w : Wlk} {ys : List Nat} {s c : Nat} (r : RW E fr n x0 h w ys s c) (hE : ∀ a ∈ E, a.2.2 ≤ 65535) (h0 : 0 < n) (hs : s / n ≤ t) : okW n t h w := by
  refine ⟨by rw [r.N]; simp [ndI, r.len], by rw [r.L]; omega, by rw [r.L]; have := Nat.mod_lt s h0; omega, by rw [r.C]; omega, ?_, by rw [r.D]; exact hs⟩
  rw [r.C]
  have := r.wk.cost hE
  rw [r.len, Nat.mul_comm] at this
  omega
def notLess (w x : Wlk) : Prop := ¬ betW x w = true
theorem RW.bet {E : List Arc} {fr n x0 h : Nat} {w w' : Wlk} {ys ys' : List Nat} {s s' c c' : Nat} (r : RW E fr n x0 h w ys s c) (r' : RW E fr n x0 h w' ys' s' c') : betW w w' = true ↔ c < c' ∨ c = c' ∧ lexlt (ys.map (· % n)) (ys'.map (· % n)) := by
  unfold betW
  rw [r.N, r'.N, r.C, r'.C, cmpI_cons]
  rw [Bool.or_eq_true, Bool.and_eq_true, decide_eq_true_iff, decide_eq_true_iff, decide_eq_true_iff, cmpI_lt]
  constructor
  · rintro (h | ⟨h, k⟩)
    · exact .inl (by omega)
    · exact .inr ⟨by omega, k⟩
  · rintro (h | ⟨h, k⟩)
    · exact .inl (by omega)
    · exact .inr ⟨by omega, k⟩
section
variable {ls : List Lnk} {th : List Int} {n fr x0 : Nat} {c : Con} (hls : ∀ x ∈ ls, okLk n x) (hth : c.Thru = th)
include hls hth
theorem RW.step {h : Nat} {w : Wlk} {ys : List Nat} {s co : Nat} (r : RW (arcsN ls th n) fr n x0 h w ys s co) (hk : s / n ≤ th.length) {x : Lnk} (hx : x ∈ ls) (hf : x.From = lastW w) : RW (arcsN ls th n) fr n x0 (h + 1) (stepW w x c) (ys ++ [entN th n x.To.toNat (s / n)]) (entN th n x.To.toNat (s / n)) (co + x.Cost.toNat) ∧ entN th n x.To.toNat (s / n) / n ≤ th.length := by
  obtain ⟨o1, o2, o3, o4, o5, o6⟩ := hls x hx
  have hfs : x.From.toNat = s % n := by rw [hf, r.L, Int.toNat_natCast]
  have ha := arc_of hk hx hfs
  have e1 := ent_div (th := th) (k := s / n) (show x.To.toNat < n by omega)
  have e2 := ent_mod (th := th) (k := s / n) (show x.To.toNat < n by omega)
  have e3 : (x.To.toNat : Int) = x.To := by omega
  refine ⟨⟨r.wk.snoc ha, by simp [r.len], ?_, ?_, ?_, ?_⟩, by rw [e1]; exact entK_len hk⟩
  · simp only [stepW, r.N, ndI, List.map_append, List.map_cons, List.map_nil, List.cons_append, e2, e3]
  · simp only [stepW, r.C]; omega
  · simp only [stepW]
    rw [e1, r.D, hth]
    unfold entK
    rw [e3]
  · rw [e2, e3]
    unfold lastW stepW
    simp
omit hls hth in
theorem keepN_spec (l : List Wlk) (w : Wlk) : (∀ y ∈ keepN l w, y ∈ l ∨ y = w) ∧ ((∃ y ∈ keepN l w, lastW y = lastW w ∧ y.D = w.D ∧ notLess y w)) ∧ ∀ y ∈ l, y ∈ keepN l w ∨ (lastW w = lastW y ∧ w.D = y.D ∧ betW w y = true ∧ w ∈ keepN l w) := by
  have hrefl : ∀ w : Wlk, notLess w w := by
    intro w
    unfold notLess betW
    have : ∀ l : List Int, cmpI l l = 0 := by
      intro l
      induction l with
      | nil => rfl
      | cons x l ih => rw [cmpI_cons, ih]
    simp [this]
  rcases keepN_cases l w with ⟨i, x, h1, h2, h3, h4⟩ | ⟨h1, h2⟩
  · rw [h4]
    have hi := (List.getElem?_eq_some_iff.1 h1).1
    have hxi := (List.getElem?_eq_some_iff.1 h1).2
    by_cases hb : betW w x = true
    · rw [if_pos hb]
      have hw : w ∈ l.set i w := List.mem_iff_getElem?.2 ⟨i, by simp [hi]⟩
      refine ⟨fun y hy => (List.mem_or_eq_of_mem_set hy), ⟨w, hw, rfl, rfl, hrefl w⟩, fun y hy => ?_⟩
      obtain ⟨j, hj, hyj⟩ := List.mem_iff_getElem.1 hy
      by_cases e : i = j
      · subst e
        have : x = y := by rw [← hxi, hyj]
        subst this
        exact .inr ⟨h2.symm, h3.symm, hb, hw⟩
      · exact .inl (List.mem_iff_getElem?.2 ⟨j, by rw [List.getElem?_set, if_neg e, ← hyj]; exact List.getElem?_eq_getElem hj⟩)
    · rw [if_neg hb]
      have : l.set i x = l := by
        apply List.ext_getElem?
        intro k
        rw [List.getElem?_set]
        split
        · rename_i e; subst e; exact h1.symm
        · rfl
      rw [this]
      exact ⟨fun y hy => .inl hy, ⟨x, List.mem_of_getElem? h1, h2, h3, hb⟩, fun y hy => .inl hy⟩
  · rw [h2]
    exact ⟨fun y hy => by simpa using hy, ⟨w, by simp, rfl, rfl, hrefl w⟩, fun y hy => .inl (by simp [hy])⟩
/-- What is kept of the walks of so many steps: each is one of states, and each of those that were seen is no less than one of them. -/
structure Kept (E : List Arc) (fr n x0 t h : Nat) (S : List Nat → Nat → Nat → Prop) (l : List Wlk) : Prop where
  a : ∀ w ∈ l, ∃ ys s c, RW E fr n x0 h w ys s c ∧ s / n ≤ t
  b : ∀ ys s c, S ys s c → ∃ w ∈ l, ∃ ys' c', RW E fr n x0 h w ys' s c' ∧ (c' < c ∨ c' = c ∧ ¬ lexlt (ys.map (· % n)) (ys'.map (· % n)))
omit hls hth in
theorem Kept.keep {E : List Arc} {t h : Nat} (h0 : 0 < n) {S : List Nat → Nat → Nat → Prop} {l : List Wlk} (k : Kept E fr n x0 t h S l) {w : Wlk} {ys : List Nat} {s co : Nat} (r : RW E fr n x0 h w ys s co) (hs : s / n ≤ t) : Kept E fr n x0 t h (fun zs s' d => S zs s' d ∨ zs = ys ∧ s' = s ∧ d = co) (keepN l w) := by
  obtain ⟨k1, ⟨y, y1, y2, y3, y4⟩, k3⟩ := keepN_spec l w
  have code : ∀ {w w' : Wlk} {ys ys' : List Nat} {s s' c c' : Nat}, RW E fr n x0 h w ys s c → RW E fr n x0 h w' ys' s' c' → lastW w = lastW w' → w.D = w'.D → s = s' := by
    intro w w' ys ys' s s' c c' r r' e1 e2
    rw [← r.code, ← r'.code]
    unfold codeW
    rw [e1, e2]
  have hal : ∀ y ∈ keepN l w, ∃ ys s c, RW E fr n x0 h y ys s c ∧ s / n ≤ t := by
    intro y hy
    rcases k1 y hy with h1 | rfl
    · exact k.a y h1
    · exact ⟨ys, s, co, r, hs⟩
  refine ⟨hal, ?_⟩
  rintro zs s' d (hS | ⟨rfl, rfl, rfl⟩)
  · obtain ⟨x, x1, ys', c', x2, x3⟩ := k.b _ _ _ hS
    rcases k3 x x1 with h1 | ⟨h1, h2, h3, h4⟩
    · exact ⟨x, h1, ys', c', x2, x3⟩
    · have := code r x2 h1 h2
      subst this
      refine ⟨w, h4, ys, co, r, ?_⟩
      have hb := (r.bet x2).1 h3
      rcases hb with hb | ⟨rfl, hb⟩
      · rcases x3 with x3 | ⟨rfl, _⟩
        · exact .inl (by omega)
        · exact .inl hb
      · rcases x3 with x3 | ⟨rfl, x3⟩
        · exact .inl x3
        · refine .inr ⟨rfl, fun hc => x3 (lexlt_trans hc hb)⟩
  · obtain ⟨ys2, s2, c2, r2, hs2⟩ := hal y y1
    have := code r2 r y2 y3
    subst this
    refine ⟨y, y1, ys2, c2, r2, ?_⟩
    have hb : ¬ _ := fun q => y4 ((r.bet r2).2 q)
    rcases Nat.lt_trichotomy c2 d with h1 | h1 | h1
    · exact .inl h1
    · exact .inr ⟨h1, fun q => hb (.inr ⟨h1.symm, q⟩)⟩
    · exact absurd (.inl h1) hb
omit hls hth in
theorem Kept.less {E : List Arc} {t h : Nat} {S S' : List Nat → Nat → Nat → Prop} {l : List Wlk} (k : Kept E fr n x0 t h S l) (hS : ∀ ys s c, S' ys s c → S ys s c) : Kept E fr n x0 t h S' l := ⟨k.a, fun ys s c q => k.b ys s c (hS _ _ _ q)⟩
end
end Go.Proofs.YtpmmnnaaoideeaaGreat

/- The reference finds the least walk. No program. -/
namespace Go.Proofs.YtpmmnnaaoideeaaGreat
open Go Go.Am Go.Wk

theorem ndI_inj : ∀ {a b : List Nat}, ndI a = ndI b → a = b
  | [], [], _ => rfl
  | [], _ :: _, h => by simp [ndI] at h
  | _ :: _, [], h => by simp [ndI] at h
  | x :: a, y :: b, h => by
    unfold ndI at h
    rw [List.map_cons, List.map_cons] at h
    injection h with h1 h2
    rw [ndI_inj (a := a) (b := b) h2, Int.ofNat.inj h1]
theorem RW.uniq {E : List Arc} {fr n x0 h h' : Nat} {w : Wlk} {ys ys' : List Nat} {s s' c c' : Nat} (r : RW E fr n x0 h w ys s c) (r' : RW E fr n x0 h' w ys' s' c') : s = s' ∧ c = c' ∧ ys.map (· % n) = ys'.map (· % n) := by
  refine ⟨by rw [← r.code, ← r'.code], by have := r.C; have := r'.C; omega, ?_⟩
  have h1 := r.N
  rw [r'.N] at h1
  injection h1 with _ h1
  exact (ndI_inj h1).symm
theorem Kept.less' {E : List Arc} {fr n x0 t h : Nat} {S S' : List Nat → Nat → Nat → Prop} {l : List Wlk} (k : Kept E fr n x0 t h S l) (hS : ∀ ys s c, S' ys s c → ∃ zs, zs.map (· % n) = ys.map (· % n) ∧ S zs s c) : Kept E fr n x0 t h S' l := by
  refine ⟨k.a, fun ys s c q => ?_⟩
  obtain ⟨zs, h1, h2⟩ := hS _ _ _ q
  have := k.b _ _ _ h2
  rw [h1] at this
  exact this
section
variable {l : List Lnk} {th : List Int} {n fr x0 : Nat} {c : Con} (hls : ∀ x ∈ l, okLk n x) (hth : c.Thru = th) (h0 : 0 < n)
def candW (th : List Int) (n : Nat) (c : Con) (x : Lnk) (ys : List Nat) (s co : Nat) (zs : List Nat) (s' d : Nat) : Prop :=
  x.From = ((s % n : Nat) : Int) ∧ usableN x c = true ∧ zs = ys ++ [entN th n x.To.toNat (s / n)] ∧ s' = entN th n x.To.toNat (s / n) ∧ d = co + x.Cost.toNat
include hls in
theorem usk : ∀ x ∈ l.filter (fun x => usableN x c), okLk n x := fun x hx => hls x (List.mem_filter.1 hx).1
include hls hth h0
theorem linkR_kept {h : Nat} {S : List Nat → Nat → Nat → Prop} {nx : List Wlk} (k : Kept (arcsN (l.filter fun x => usableN x c) th n) fr n x0 th.length (h + 1) S nx) {w : Wlk} {ys : List Nat} {s co : Nat} (r : RW (arcsN (l.filter fun x => usableN x c) th n) fr n x0 h w ys s co) (hs : s / n ≤ th.length) {x : Lnk} (hx : x ∈ l) :
    Kept (arcsN (l.filter fun x => usableN x c) th n) fr n x0 th.length (h + 1) (fun zs s' d => S zs s' d ∨ candW th n c x ys s co zs s' d) (linkR c w nx x) := by
  unfold linkR
  split
  · rename_i hc
    obtain ⟨r1, r2⟩ := r.step (usk hls) hth hs (List.mem_filter.2 ⟨hx, hc.2⟩) hc.1
    refine (k.keep h0 r1 r2).less fun zs s' d q => ?_
    rcases q with q | ⟨_, _, q3, q4, q5⟩
    · exact .inl q
    · exact .inr ⟨q3, q4, q5⟩
  · rename_i hc
    refine k.less fun zs s' d q => ?_
    rcases q with q | ⟨q1, q2, _⟩
    · exact q
    · exact absurd ⟨by rw [q1, r.L], q2⟩ hc
theorem linksR_kept {h : Nat} {w : Wlk} {ys : List Nat} {s co : Nat} (r : RW (arcsN (l.filter fun x => usableN x c) th n) fr n x0 h w ys s co) (hs : s / n ≤ th.length) : ∀ {l' : List Lnk}, (∀ x ∈ l', x ∈ l) → ∀ {S : List Nat → Nat → Nat → Prop} {nx : List Wlk}, Kept (arcsN (l.filter fun x => usableN x c) th n) fr n x0 th.length (h + 1) S nx →
    Kept (arcsN (l.filter fun x => usableN x c) th n) fr n x0 th.length (h + 1) (fun zs s' d => S zs s' d ∨ ∃ x ∈ l', candW th n c x ys s co zs s' d) (linksR l' c nx w) := by
  intro l'
  induction l' with
  | nil => intro _ S nx k; exact k.less fun zs s' d q => q.elim id fun ⟨x, hx, _⟩ => by simp at hx
  | cons x l' ih =>
    intro hl S nx k
    refine (ih (fun y hy => hl y (List.mem_cons_of_mem _ hy)) (linkR_kept hls hth h0 k r hs (hl x (by simp)))).less fun zs s' d q => ?_
    rcases q with q | ⟨y, hy, q⟩
    · exact .inl (.inl q)
    · rcases List.mem_cons.1 hy with rfl | hy
      · exact .inl (.inr q)
      · exact .inr ⟨y, hy, q⟩
theorem nextR_kept {h : Nat} : ∀ {A : List Wlk}, (∀ w ∈ A, ∃ ys s co, RW (arcsN (l.filter fun x => usableN x c) th n) fr n x0 h w ys s co ∧ s / n ≤ th.length) → ∀ {S : List Nat → Nat → Nat → Prop} {nx : List Wlk}, Kept (arcsN (l.filter fun x => usableN x c) th n) fr n x0 th.length (h + 1) S nx →
    Kept (arcsN (l.filter fun x => usableN x c) th n) fr n x0 th.length (h + 1) (fun zs s' d => S zs s' d ∨ ∃ w ∈ A, ∃ ys s co, RW (arcsN (l.filter fun x => usableN x c) th n) fr n x0 h w ys s co ∧ ∃ x ∈ l, candW th n c x ys s co zs s' d) (A.foldl (linksR l c) nx) := by
  intro A
  induction A with
  | nil => intro _ S nx k; exact k.less fun zs s' d q => q.elim id fun ⟨x, hx, _⟩ => by simp at hx
  | cons w A ih =>
    intro hA S nx k
    obtain ⟨ys, s, co, r, hs⟩ := hA w (by simp)
    refine (ih (fun y hy => hA y (List.mem_cons_of_mem _ hy)) (linksR_kept hls hth h0 r hs (fun _ hx => hx) k)).less' fun zs s' d q => ?_
    rcases q with q | ⟨y, hy, q⟩
    · exact ⟨zs, rfl, .inl (.inl q)⟩
    · rcases List.mem_cons.1 hy with rfl | hy
      · obtain ⟨ys', s2, co', r', x, hx, q1, q2, q3, q4, q5⟩ := q
        obtain ⟨rfl, rfl, e⟩ := r.uniq r'
        refine ⟨ys ++ [entN th n x.To.toNat (s / n)], ?_, .inl (.inr ⟨x, hx, q1, q2, rfl, q4, q5⟩)⟩
        rw [q3, List.map_append, List.map_append, e]
      · exact ⟨zs, rfl, .inr ⟨y, hy, q⟩⟩
theorem next_kept {h : Nat} {A : List Wlk} (k : Kept (arcsN (l.filter fun x => usableN x c) th n) fr n x0 th.length h (fun ys s d => W (arcsN (l.filter fun x => usableN x c) th n) x0 ys d s ∧ ys.length = h) A) :
    Kept (arcsN (l.filter fun x => usableN x c) th n) fr n x0 th.length (h + 1) (fun ys s d => W (arcsN (l.filter fun x => usableN x c) th n) x0 ys d s ∧ ys.length = h + 1) (nextR l c A) := by
  have hn := nextR_kept hls hth h0 (fr := fr) (x0 := x0) (h := h) (A := A) k.a (S := fun _ _ _ => False) (nx := []) ⟨fun w hw => by simp at hw, fun _ _ _ q => q.elim⟩
  refine ⟨hn.a, ?_⟩
  rintro zs s d ⟨hw, hl⟩
  obtain ⟨zs0, y, rfl⟩ : ∃ zs0 y, zs = zs0 ++ [y] := ⟨zs.dropLast, zs.getLast (by intro e; rw [e] at hl; simp at hl), (List.dropLast_concat_getLast _).symm⟩
  obtain ⟨rfl, s0, d0, a, w1, w2, rfl⟩ := hw.snoc_inv
  simp at hl
  obtain ⟨w, hwA, ys', c', r, hr⟩ := k.b _ _ _ ⟨w1, hl⟩
  obtain ⟨_, x, x1, x2, x3, x4, x5, x6, x7⟩ := arc_inv (usk hls) w2
  obtain ⟨xm, xu⟩ := List.mem_filter.1 x1
  obtain ⟨w', hw', ys2, c2, r2, hr2⟩ := hn.b (ys' ++ [y]) y (c' + a) (.inr ⟨w, hwA, ys', s0, c', r, x, xm, x5, xu, by rw [x3], x3, by omega⟩)
  refine ⟨w', hw', ys2, c2, r2, ?_⟩
  have hlen : (ys'.map (· % n)).length = (zs0.map (· % n)).length := by simp [r.len, hl]
  have hlx := fun a b : Nat => lexlt_snoc (a := ys'.map (· % n)) (b := zs0.map (· % n)) a b hlen
  have key : c' = d0 → c2 = c' + a → ¬ lexlt ((zs0 ++ [y]).map (· % n)) (ys2.map (· % n)) := by
    rintro rfl rfl hc
    rcases hr with hr | ⟨_, hr⟩
    · omega
    rcases hr2 with hr2 | ⟨_, hr2⟩
    · omega
    rcases lexlt_tri (ys'.map (· % n)) (zs0.map (· % n)) with h1 | h1 | h1
    · apply hr2
      refine lexlt_trans ?_ hc
      simp only [List.map_append, List.map_cons, List.map_nil]
      exact (hlx _ _).2 (.inl h1)
    · apply hr2
      simp only [List.map_append, List.map_cons, List.map_nil] at hc ⊢
      rw [h1]
      exact hc
    · exact hr h1
  have b1 : c' ≤ d0 := by omega
  have b2 : c2 ≤ c' + a := by omega
  rcases Nat.lt_or_ge c2 (d0 + a) with h1 | h1
  · exact .inl h1
  · exact .inr ⟨by omega, key (by omega) (by omega)⟩
end
/-- The least walk to z of less than h steps, if there is one. -/
def BestLt (E : List Arc) (fr n x0 z h : Nat) : Option Wlk → Prop
  | none => ∀ ys d, W E x0 ys d z → h ≤ ys.length
  | some w => ∃ ys c, RW E fr n x0 ys.length w ys z c ∧ ys.length < h ∧ ∀ zs d, W E x0 zs d z → zs.length < h → c < d ∨ c = d ∧ (ys.length < zs.length ∨ ys.length = zs.length ∧ ¬ lexlt (zs.map (· % n)) (ys.map (· % n)))
theorem nodup_inj {α : Type} {f : α → Nat} : ∀ {A : List α}, (A.map f).Nodup → ∀ {a b : α}, a ∈ A → b ∈ A → f a = f b → a = b := by
  intro A
  induction A with
  | nil => intro _ a b h; simp at h
  | cons x A ih =>
    intro hd a b ha hb e
    rw [List.map_cons, List.nodup_cons] at hd
    rcases List.mem_cons.1 ha with h1 | h1 <;> rcases List.mem_cons.1 hb with h2 | h2
    · rw [h1, h2]
    · exact absurd (List.mem_map.2 ⟨b, h2, by rw [← e, h1]⟩) hd.1
    · exact absurd (List.mem_map.2 ⟨a, h1, by rw [e, h2]⟩) hd.1
    · exact ih hd.2 h1 h2 e
theorem bestR_no {to : Int} {t : Nat} : ∀ {A : List Wlk} {b : Option Wlk}, (∀ w ∈ A, ¬ (lastW w = to ∧ w.D = t)) → bestR to t b A = b := by
  intro A
  induction A with
  | nil => intro b _; rfl
  | cons w A ih =>
    intro b h
    unfold bestR at ih ⊢
    rw [List.foldl_cons]
    have : bestS to t b w = b := by
      unfold bestS
      rw [if_neg]
      rintro ⟨h1, h2, _⟩
      exact h w (by simp) ⟨h1, h2⟩
    rw [this]
    exact ih fun y hy => h y (List.mem_cons_of_mem _ hy)
theorem bestR_one {n : Nat} {to : Int} {t : Nat} : ∀ {A : List Wlk} {b : Option Wlk}, (A.map (codeW n)).Nodup → ∀ w ∈ A, lastW w = to → w.D = t → bestR to t b A = if lessB b w = true then some w else b := by
  intro A
  induction A with
  | nil => intro b _ w hw; simp at hw
  | cons x A ih =>
    intro b hd w hw h1 h2
    rw [List.map_cons, List.nodup_cons] at hd
    rcases List.mem_cons.1 hw with rfl | hw
    · have hno : bestR to t (bestS to t b w) A = bestS to t b w := bestR_no fun y hy ⟨e1, e2⟩ => hd.1 (List.mem_map.2 ⟨y, hy, by unfold codeW; rw [e1, e2, h1, h2]⟩)
      show bestR to t (bestS to t b w) A = _
      rw [hno]
      unfold bestS
      by_cases hl : lessB b w = true
      · rw [if_pos ⟨h1, h2, hl⟩, if_pos hl]
      · rw [if_neg (fun q => hl q.2.2), if_neg hl]
    · show bestR to t (bestS to t b x) A = _
      rw [ih hd.2 w hw h1 h2]
      have : bestS to t b x = b := by
        unfold bestS
        rw [if_neg]
        rintro ⟨e1, e2, _⟩
        exact hd.1 (List.mem_map.2 ⟨w, hw, by unfold codeW; rw [e1, e2, h1, h2]⟩)
      rw [this]
theorem BestLt.step {E : List Arc} {fr n x0 to t h : Nat} (h0 : 0 < n) (hto : to < n) {b : Option Wlk} (hb : BestLt E fr n x0 (t * n + to) h b) {A : List Wlk} (k : Kept E fr n x0 t h (fun ys s d => W E x0 ys d s ∧ ys.length = h) A) (hd : (A.map (codeW n)).Nodup) : BestLt E fr n x0 (t * n + to) (h + 1) (bestR (to : Int) t b A) := by
  have zd : (t * n + to) / n = t := by rw [Nat.mul_comm, Nat.mul_add_div h0, Nat.div_eq_of_lt hto]; rfl
  have zm : (t * n + to) % n = to := by rw [Nat.mul_comm, Nat.mul_add_mod, Nat.mod_eq_of_lt hto]
  by_cases hw : ∃ w ∈ A, codeW n w = t * n + to
  · obtain ⟨w, hwA, hc⟩ := hw
    obtain ⟨ys, s, c, r, _⟩ := k.a w hwA
    have hs : s = t * n + to := by rw [← r.code, hc]
    subst hs
    rw [bestR_one hd w hwA (by rw [r.L, zm]) (by rw [r.D, zd])]
    have hmin : ∀ zs d, W E x0 zs d (t * n + to) → zs.length = h → c < d ∨ c = d ∧ ¬ lexlt (zs.map (· % n)) (ys.map (· % n)) := by
      intro zs d h1 h2
      obtain ⟨w', hw', ys', c', r', hr'⟩ := k.b _ _ _ ⟨h1, h2⟩
      have : w = w' := by
        exact nodup_inj hd hwA hw' (by rw [r.code, r'.code])
      subst this
      obtain ⟨_, rfl, e⟩ := r.uniq r'
      rw [e]
      exact hr'
    have rl := r.len
    rw [← rl] at r
    by_cases hl : lessB b w = true
    · rw [if_pos hl]
      refine ⟨ys, c, r, by omega, fun zs d h1 h2 => ?_⟩
      by_cases e : zs.length = h
      · have := hmin zs d h1 e
        rcases this with h3 | ⟨h3, h4⟩
        · exact .inl h3
        · exact .inr ⟨h3, .inr ⟨by omega, h4⟩⟩
      · cases b with
        | none => have := hb zs d h1; omega
        | some q =>
          obtain ⟨us, cq, rq, h3, h4⟩ := hb
          unfold lessB at hl
          simp only [decide_eq_true_eq] at hl
          rw [r.C, rq.C] at hl
          have := h4 zs d h1 (by omega)
          omega
    · rw [if_neg hl]
      cases b with
      | none => exact absurd rfl hl
      | some q =>
        obtain ⟨us, cq, rq, h3, h4⟩ := hb
        unfold lessB at hl
        simp only [decide_eq_true_eq] at hl
        rw [r.C, rq.C] at hl
        refine ⟨us, cq, rq, by omega, fun zs d h1 h2 => ?_⟩
        by_cases e : zs.length = h
        · have := hmin zs d h1 e
          omega
        · exact h4 zs d h1 (by omega)
  · have hnw : ∀ zs d, W E x0 zs d (t * n + to) → zs.length ≠ h := by
      intro zs d h1 h2
      obtain ⟨w', hw', ys', c', r', _⟩ := k.b _ _ _ ⟨h1, h2⟩
      exact hw ⟨w', hw', r'.code⟩
    rw [bestR_no (fun w hwA ⟨e1, e2⟩ => hw ⟨w, hwA, by unfold codeW; rw [e1, e2]; simp⟩)]
    cases b with
    | none =>
      intro ys d h1
      have := hb ys d h1
      have := hnw ys d h1
      omega
    | some q =>
      obtain ⟨us, cq, rq, h3, h4⟩ := hb
      exact ⟨us, cq, rq, by omega, fun zs d h1 h2 => h4 zs d h1 (by have := hnw zs d h1; omega)⟩
theorem loopR_best {l : List Lnk} {n fr x0 to : Nat} {c : Con} (hls : ∀ x ∈ l, okLk n x) (h0 : 0 < n) (hto : to < n) (sz : Nat) (b0 : Option Wlk) (A0 : List Wlk) : ∀ (f h : Nat) (A : List Wlk) (b : Option Wlk), f + h = sz + 1 → h ≤ sz → (∀ j, j < h → j < sz ∧ limH c.Hops j) →
    Kept (arcsN (l.filter fun x => usableN x c) c.Thru n) fr n x0 c.Thru.length h (fun ys s d => W (arcsN (l.filter fun x => usableN x c) c.Thru n) x0 ys d s ∧ ys.length = h) A → okNx n c.Thru.length h A → BestLt (arcsN (l.filter fun x => usableN x c) c.Thru n) fr n x0 (c.Thru.length * n + to) h b →
    match loopR l c (to : Int) sz f h A b with
    | none => ∀ ys d, W (arcsN (l.filter fun x => usableN x c) c.Thru n) x0 ys d (c.Thru.length * n + to) → ¬ (ys.length < sz ∧ limH c.Hops ys.length)
    | some w => ∃ ys co, RW (arcsN (l.filter fun x => usableN x c) c.Thru n) fr n x0 ys.length w ys (c.Thru.length * n + to) co ∧ Best (arcsN (l.filter fun x => usableN x c) c.Thru n) (· % n) (fun k => k < sz ∧ limH c.Hops k) x0 (c.Thru.length * n + to) ys co := by
  have fin : ∀ (h : Nat) (b : Option Wlk), (∀ j, j < h → j < sz ∧ limH c.Hops j) → BestLt (arcsN (l.filter fun x => usableN x c) c.Thru n) fr n x0 (c.Thru.length * n + to) h b → (∀ ys d, W (arcsN (l.filter fun x => usableN x c) c.Thru n) x0 ys d (c.Thru.length * n + to) → (ys.length < sz ∧ limH c.Hops ys.length) → ys.length < h) →
    match b with
    | none => ∀ ys d, W (arcsN (l.filter fun x => usableN x c) c.Thru n) x0 ys d (c.Thru.length * n + to) → ¬ (ys.length < sz ∧ limH c.Hops ys.length)
    | some w => ∃ ys co, RW (arcsN (l.filter fun x => usableN x c) c.Thru n) fr n x0 ys.length w ys (c.Thru.length * n + to) co ∧ Best (arcsN (l.filter fun x => usableN x c) c.Thru n) (· % n) (fun k => k < sz ∧ limH c.Hops k) x0 (c.Thru.length * n + to) ys co := by
    intro h b hj hb hl
    cases b with
    | none =>
      intro ys d hw hlm
      have := hb ys d hw
      have := hl ys d hw hlm
      omega
    | some w =>
      obtain ⟨ys, co, r, h1, h2⟩ := hb
      exact ⟨ys, co, r, r.wk, hj _ h1, fun zs d hw hlm => h2 zs d hw (hl zs d hw hlm)⟩
  intro f
  induction f with
  | zero => intro h A b h1 h2; omega
  | succ f ih =>
    intro h A b h1 h2 hj k ok hb
    simp only [loopR]
    by_cases hc : A ≠ [] ∧ h < sz ∧ (c.Hops = 0 ∨ (h : Int) ≤ c.Hops)
    · rw [if_pos hc]
      refine ih (h + 1) _ _ (by omega) (by omega) (fun j hj' => ?_) (next_kept hls rfl h0 k) (nextR_ok rfl hls ok.w) (hb.step h0 hto k ok.nd)
      by_cases e : j = h
      · subst e; exact ⟨hc.2.1, hc.2.2⟩
      · exact hj j (by omega)
    · rw [if_neg hc]
      refine fin h b hj hb fun ys d hw hlm => ?_
      rcases Nat.lt_or_ge ys.length h with h3 | h3
      · exact h3
      · by_cases hA : A = []
        · obtain ⟨y, a, b', w1, w2, _⟩ := (show W (arcsN (l.filter fun x => usableN x c) c.Thru n) x0 (ys.take h ++ ys.drop h) d _ by rw [List.take_append_drop]; exact hw).split
          obtain ⟨w, hwA, _⟩ := k.b _ _ _ ⟨w1, by simp; omega⟩
          rw [hA] at hwA
          simp at hwA
        · exfalso
          apply hc
          refine ⟨hA, by omega, limH_mono _ _ _ h3 hlm.2⟩
end Go.Proofs.YtpmmnnaaoideeaaGreat

/- The reference's Route, by the program. -/
namespace Go.Proofs.YtpmmnnaaoideeaaGreat
open Go Go.Am Go.Wk

def bC : Option Wlk → List AVal
  | none => [.sl 1 [] .sh, .int .i64 0, .int .i64 0]
  | some w => ceW w
theorem firstW_ok {n : Nat} {fr : Int} (h0 : 0 ≤ fr) (h1 : fr < n) (c : Con) : okW n c.Thru.length 0 (firstW fr c) := by
  refine ⟨rfl, by simpa [lastW, firstW] using h0, by simpa [lastW, firstW] using h1, by simp [firstW], by simp [firstW], ?_⟩
  simp only [firstW]
  split
  · rename_i e
    have := (List.getElem?_eq_some_iff.1 e).1
    omega
  · omega
/-- The first loop of a code. -/
def firstLoop : Code → Option Code
  | .loop c => some c
  | .seq a b => (firstLoop a).orElse fun _ => firstLoop b
  | .block _ c => firstLoop c
  | .cond _ a b => (firstLoop a).orElse fun _ => firstLoop b
  | .scope c => firstLoop c
  | _ => none
def loopIn (c : Code) : Code := (firstLoop c).getD .skip
structure OS where
  h : Nat
  A : List Wlk
  b : Option Wlk
structure WS where
  j : Nat
  nx : List Wlk
  b : Option Wlk
structure LS where
  i : Nat
  nx : List Wlk
  loc : Nat
theorem loopR_stop {l : List Lnk} {c : Con} {to : Int} {sz h : Nat} {A : List Wlk} {b : Option Wlk} (hc : ¬ (A ≠ [] ∧ h < sz ∧ (c.Hops = 0 ∨ (h : Int) ≤ c.Hops))) : ∀ f, loopR l c to sz f h A b = b
  | 0 => rfl
  | f + 1 => by simp only [loopR]; rw [if_neg hc]
theorem loopR_go {l : List Lnk} {c : Con} {to : Int} {sz h : Nat} {A : List Wlk} {b : Option Wlk} (hc : A ≠ [] ∧ h < sz ∧ (c.Hops = 0 ∨ (h : Int) ≤ c.Hops)) : loopR l c to sz (sz + 1 - h) h A b = loopR l c to sz (sz + 1 - (h + 1)) (h + 1) (nextR l c A) (bestR to c.Thru.length b A) := by
  obtain ⟨f, hf⟩ : ∃ f, sz + 1 - h = f + 1 := ⟨sz - h, by omega⟩
  rw [hf, show sz + 1 - (h + 1) = f by omega]
  simp only [loopR]
  rw [if_pos hc]
theorem bC_le (m : Nat) (b : Option Wlk) : LeCells m (bC b) (bC b) := by cases b <;> simp [bC, ceW, LeCells]
def nxV (nx : List Wlk) : Nat → AVal
  | 0 => .sl 0 [] .full
  | 1 => .osl 4 0 nx.length none 3
  | _ => .osl 3 0 nx.length none 3
def HL (c : Con) (b : Option Wlk) (w : Wlk) (nx : List Wlk) : Nat → List (List AVal)
  | 0 => [cellsC c, [], bC b, ceW w]
  | 1 => [cellsC c, [], bC b, ceW w, rowC ceW nx]
  | _ => [cellsC c, [], bC b, rowC ceW nx, ceW w]
/-- What the slots hold around the links. -/
def slL (l : List Lnk) (N : Nat) (to : Int) (b : Option Wlk) (h : Nat) (A : List Wlk) (j : Nat) (nx : List Wlk) (loc : Nat) : List (Nat × AVal) :=
  [(0, .int .i64 N), (1, .sl 13 (l.map encL) .sh), (3, .int .i64 to), (9, .ptr 0 0), (16, .ptr 2 0), (17, .bool b.isSome), (18, .int .i64 h), (19, nxV nx loc), (96, .sl 3 (A.map encW) .sh), (97, .int .i64 A.length), (98, .int .i64 j)]
def holds (t : Nat → AVal) (L : List (Nat × AVal)) : Prop := ∀ p ∈ L, t p.1 = p.2
theorem bC_tree (b : Option Wlk) : (bC b).all AVal.tree = true := by cases b <;> rfl
theorem treeCS {σ : Nat → Nat} {N n : Nat} {cs : List AVal} (h : cs.all AVal.tree = true) : LeCellsS σ N n cs cs := treeCellsS h
end Go.Proofs.YtpmmnnaaoideeaaGreat

/- The program and the reference find the same route. No program. -/
namespace Go.Proofs.YtpmmnnaaoideeaaGreat
open Go Go.Am Go.Wk

theorem out_false {N : Nat} {x : Int} (h : outN N x = false) : x = (x.toNat : Int) ∧ x.toNat < N := by
  simp only [outN, Bool.or_eq_false_iff, decide_eq_false_iff_not] at h
  omega
theorem first_kept {l : List Lnk} {n fr : Nat} {c : Con} (hf : fr < n) : Kept (arcsN (l.filter fun x => usableN x c) c.Thru n) fr n (entN c.Thru n fr 0) c.Thru.length 0 (fun ys s d => W (arcsN (l.filter fun x => usableN x c) c.Thru n) (entN c.Thru n fr 0) ys d s ∧ ys.length = 0) [firstW (fr : Int) c] := by
  have e1 := ent_div (th := c.Thru) (k := 0) hf
  have e2 := ent_mod (th := c.Thru) (k := 0) hf
  have r : RW (arcsN (l.filter fun x => usableN x c) c.Thru n) fr n (entN c.Thru n fr 0) 0 (firstW (fr : Int) c) [] (entN c.Thru n fr 0) 0 := by
    refine ⟨.nil _, rfl, rfl, rfl, ?_, ?_⟩
    · rw [e1]; rfl
    · rw [e2]; rfl
  refine ⟨fun w hw => ?_, ?_⟩
  · rw [List.mem_singleton] at hw
    subst hw
    exact ⟨_, _, _, r, by rw [e1]; exact entK_len (Nat.zero_le _)⟩
  · rintro ys s d ⟨hw, hl⟩
    have : ys = [] := List.length_eq_zero_iff.1 hl
    subst this
    obtain ⟨rfl, rfl⟩ := hw.nil_inv
    exact ⟨_, by simp, [], 0, r, .inr ⟨rfl, by simp [lexlt]⟩⟩
/-- Both find the least walk. -/
theorem walk_ref {l : List Lnk} {n fr to : Nat} {c : Con} (hls : ∀ x ∈ l, okLk n x) (hs : l.Pairwise fun x y => x.From < y.From ∨ x.From = y.From ∧ x.To < y.To) (h0 : 0 < n) (hto : to < n) (hf : fr < n) (hm0 : 0 ≤ c.Hops) :
    walkN (l.filter fun x => usableN x c) c.Thru n to fr c.Hops = (loopR l c (to : Int) (n * (c.Thru.length + 1)) (n * (c.Thru.length + 1) + 1) 0 [firstW (fr : Int) c] none).map fun w => (w.N, w.C) := by
  have hus := usk hls (c := c)
  have hE1 : ∀ a ∈ arcsN (l.filter fun x => usableN x c) c.Thru n, 1 ≤ a.2.2 := fun a ha => (arcs_bound hus ha).2.2.1
  have hE2 : ∀ a ∈ arcsN (l.filter fun x => usableN x c) c.Thru n, a.2.1 < n * (c.Thru.length + 1) := fun a ha => (arcs_bound hus ha).2.1
  have hx0s : entN c.Thru n fr 0 < n * (c.Thru.length + 1) := by
    unfold entN
    have := entK_len (th := c.Thru) (a := fr) (k := 0) (by omega)
    have e2 : (entK c.Thru fr 0 + 1) * n ≤ (c.Thru.length + 1) * n := Nat.mul_le_mul_right n (by omega)
    rw [Nat.succ_mul] at e2
    rw [Nat.mul_comm n]
    omega
  have h1 := walkN_best (ls := l.filter fun x => usableN x c) (th := c.Thru) (n := n) (t := to) (from_ := fr) (most := c.Hops) h0 hus (hs.filter _) hf hm0
  have h2 := loopR_best (l := l) (n := n) (fr := fr) (x0 := entN c.Thru n fr 0) (to := to) (c := c) hls h0 hto (n * (c.Thru.length + 1)) none [] (n * (c.Thru.length + 1) + 1) 0 [firstW (fr : Int) c] none rfl (Nat.zero_le _) (fun j hj => by omega) (first_kept hf) ⟨fun w hw => by
    rw [List.mem_singleton] at hw
    subst hw
    exact firstW_ok (by omega) (by omega) c, by simp⟩ (fun ys d _ => Nat.zero_le _)
  generalize walkN (l.filter fun x => usableN x c) c.Thru n to fr c.Hops = X at *
  generalize loopR l c (to : Int) (n * (c.Thru.length + 1)) (n * (c.Thru.length + 1) + 1) 0 [firstW (fr : Int) c] none = Y at *
  cases X with
  | none =>
    cases Y with
    | none => rfl
    | some w =>
      obtain ⟨ys, co, _, hb⟩ := h2
      exact absurd hb.l.2 (h1 _ _ hb.w)
  | some p =>
    obtain ⟨ys, co, hb, e1, e2⟩ := h1
    cases Y with
    | none =>
      exfalso
      rcases hb.w.short hE1 hE2 hx0s with h3 | ⟨zs, d, k1, k2, k3, k4⟩
      · exact h2 _ _ hb.w ⟨h3, hb.l⟩
      · exact h2 _ _ k1 ⟨k4, limH_mono _ _ _ k3 hb.l⟩
    | some w =>
      obtain ⟨zs, d, r, hb'⟩ := h2
      obtain ⟨k1, k2⟩ := hb.uniq (hb'.of_short hE1 hE2 (limH_mono _) hx0s)
      obtain ⟨p1, p2⟩ := p
      simp only at e1 e2
      rw [Option.map_some, r.N, r.C, e1, e2, k2]
      congr 2
      have k3 := congrArg ndI k1
      rw [← k3]
      simp [ndI]
theorem routeN_ref (n : Int) (l : List Lnk) (fr to : Int) (c : Con) : routeN n l fr to c = refN n l fr to c := by
  unfold routeN refN
  by_cases g1 : checkE n l c = 0
  case neg => rw [if_pos g1, if_pos g1]
  have g1' : ¬ checkE n l c ≠ 0 := fun h => h g1
  rw [if_neg g1', if_neg g1']
  by_cases g2 : (outN n fr || outN n to) = true
  · rw [if_pos g2, if_pos g2]
  rw [if_neg g2, if_neg g2]
  by_cases g3 : hasB c.Avoid fr = true
  · rw [if_pos g3, if_pos g3]
    simp [loopR]
  rw [if_neg g3, if_neg g3]
  obtain ⟨n1, n2, l2, lk, cn⟩ := check_links g1
  obtain ⟨asc, _, lko⟩ := links_asc lk
  obtain ⟨c1, c2, c3, _⟩ := con_ok cn
  obtain ⟨N, hN⟩ : ∃ N : Nat, n = N := ⟨n.toNat, by omega⟩
  subst hN
  simp only [Bool.or_eq_true, not_or, Bool.not_eq_true] at g2
  obtain ⟨f1, f2⟩ := out_false g2.1
  obtain ⟨t1, t2⟩ := out_false g2.2
  have h := walk_ref (l := l) (n := N) (fr := fr.toNat) (to := to.toNat) (c := c) (fun x hx => (link_ok (lko x hx)).1) asc (by omega) t2 f2 c1
  rw [← f1, ← t1] at h
  rw [Int.toNat_natCast, h]
  generalize loopR l c to (N * (c.Thru.length + 1)) (N * (c.Thru.length + 1) + 1) 0 [firstW fr c] none = Y
  cases Y <;> rfl
end Go.Proofs.YtpmmnnaaoideeaaGreat

/- The example of the document, by a run. -/
namespace Go.Proofs.YtpmmnnaaoideeaaGreat
open Go Go.Am Go.Wk

def lkN (a0 a1 a2 a3 a4 a5 a6 a7 : Int) : Lnk := ⟨0, 1, 1, 10, fun i => [a0, a1, a2, a3, a4, a5, a6, a7].getD i 0, 0⟩
theorem exR (a0 a1 a2 a3 a4 a5 a6 a7 b p q : Int) : CFun Tryz.prog 42 [.int .i64 2, .sl 13 [.agg [.int .i64 0, .int .i64 1, .int .i64 1, .int .i64 10, .int .i64 a0, .int .i64 a1, .int .i64 a2, .int .i64 a3, .int .i64 a4, .int .i64 a5, .int .i64 a6, .int .i64 a7, .int .u32 0]] .sh, .int .i64 0, .int .i64 1, .agg [.int .i64 b, .int .i64 p, .int .i64 q, .int .u32 0, .int .u32 0, .int .i64 0, .sl 0 [] .full, .sl 0 [] .full]] [] (encRt (refN 2 [lkN a0 a1 a2 a3 a4 a5 a6 a7] 0 1 ⟨b, p, q, 0, 0, 0, [], []⟩)) [] := by
  have := c15 [lkN a0 a1 a2 a3 a4 a5 a6 a7] 1 rfl (by decide) ⟨b, p, q, 0, 0, 0, [], []⟩ 0 0 rfl rfl (by decide) (by decide) 2 0 1
  rw [routeN_ref] at this
  exact this.wk _ (by simp [noid, noid0]) ⟨LeS_refl _, by simp [LeS, lkN, cellsL, frC, frs], LeS_refl _, LeS_refl _, by simp [LeS, LeC], trivial⟩
set_option maxHeartbeats 1000000 in
set_option maxRecDepth 10000 in
theorem cl_0 : CFun Tryz.prog 32 [.sl 0 [] .full] [] (.sl 0 [] .sh) [] := by
  refine CFun.intro (tr := []) (fz := []) (n := 8) (rs := [.tmp 2]) Tryz.func32 rfl (by kernel_rfl) rfl rfl mixed (by kernel_rfl) (by simp) (by simp) ?_
  simp
set_option maxHeartbeats 1000000 in
set_option maxRecDepth 10000 in
theorem cl_1 : CFun Tryz.prog 32 [.sl 0 [] .sh] [] (.sl 0 [] .sh) [] := by
  refine CFun.intro (tr := []) (fz := []) (n := 8) (rs := [.tmp 2]) Tryz.func32 rfl (by kernel_rfl) rfl rfl mixed (by kernel_rfl) (by simp) (by simp) ?_
  simp
set_option maxHeartbeats 1000000 in
set_option maxRecDepth 10000 in
theorem cl_2 (a b : Int) : CFun Tryz.prog 32 [.sl 1 [.int .i64 a, .int .i64 b] .sh] [] (.sl 1 [.int .i64 a, .int .i64 b] .sh) [] := by
  refine CFun.intro (tr := []) (fz := []) (n := 8) (rs := [.tmp 2]) Tryz.func32 rfl (by kernel_rfl) rfl rfl mixed (by kernel_rfl) (by simp) (by simp) ?_
  simp
def tbA : CallF := fun f args H => if f = 32 then (match args with
  | [.sl 1 [.int .i64 a, .int .i64 b] .sh] => some (.sl 1 [.int .i64 a, .int .i64 b] .sh, H)
  | [.sl 0 [] .full] => some (.sl 0 [] .sh, H)
  | [.sl 0 [] .sh] => some (.sl 0 [] .sh, H)
  | _ => none) else if f = 42 then (match args with
  | [.int .i64 2, .sl 13 [.agg [.int .i64 0, .int .i64 1, .int .i64 1, .int .i64 10, .int .i64 a0, .int .i64 a1, .int .i64 a2, .int .i64 a3, .int .i64 a4, .int .i64 a5, .int .i64 a6, .int .i64 a7, .int .u32 0]] .sh, .int .i64 0, .int .i64 1, .agg [.int .i64 b, .int .i64 p, .int .i64 q, .int .u32 0, .int .u32 0, .int .i64 0, .sl 0 [] .full, .sl 0 [] .full]] =>
    some (encRt (refN 2 [lkN a0 a1 a2 a3 a4 a5 a6 a7] 0 1 ⟨b, p, q, 0, 0, 0, [], []⟩), H)
  | _ => none) else none
theorem tbA_ok : CallOk Tryz.prog tbA := by
  intro f args H x H' h
  unfold tbA at h
  split at h
  · rename_i hf
    subst hf
    split at h
    · injection h with h; injection h with e1 e2; subst e1 e2
      exact (cl_2 _ _).up' H rfl rfl
    · injection h with h; injection h with e1 e2; subst e1 e2
      exact cl_0.up' H rfl rfl
    · injection h with h; injection h with e1 e2; subst e1 e2
      exact cl_1.up' H rfl rfl
    · cases h
  · split at h
    case isFalse => cases h
    rename_i hf
    subst hf
    split at h
    · injection h with h; injection h with e1 e2; subst e1 e2
      exact (exR _ _ _ _ _ _ _ _ _ _ _).up' H rfl (by simp [noid, noid0])
    · cases h
def cfgA (l : Cfg) : Cfg := l ++ [(65, [100017], []), (28, [13], []), (30, [100007], []), (32, [100007], []), (45, [], [(4, 1, true)]), (44, [], [(4, 1, true)]), (8, [60, 64], []), (100, [31], []), (113, [100022], [])] ++ ([7, 40, 18, 26, 14, 27, 63, 64, 73, 74, 75, 29, 31, 33, 34, 52, 53, 54, 43, 41, 46, 47, 48, 69, 87, 88, 68, 89, 58, 59, 60, 61, 62, 66, 67, 85, 86].map fun i => (i, [], []))
def lkV (a0 a1 a2 a3 a4 a5 a6 a7 : Int) : AVal := .sl 13 [.agg [.int .i64 0, .int .i64 1, .int .i64 1, .int .i64 10, .int .i64 a0, .int .i64 a1, .int .i64 a2, .int .i64 a3, .int .i64 a4, .int .i64 a5, .int .i64 a6, .int .i64 a7, .int .u32 0]] .sh
def tnV (id b p : Int) (nl pa : AVal) : AVal := .agg [.int .i64 id, .int .i64 0, .int .i64 1, .int .i64 b, .int .i64 p, .int .i64 p, .int .u32 0, .int .u32 0, .int .i64 0, nl, nl, pa]
def p01 : AVal := .sl 1 [.int .i64 0, .int .i64 1] .sh
def nl0 : AVal := .sl 0 [] .full
def nlS : AVal := .sl 0 [] .sh
theorem ex1 : CFun Tryz.prog 14 [.int .i64 2, lkV 10 10 10 10 10 10 10 10, nl0, tnV 1 8 5 nl0 nl0] [] (.tup [lkV 10 10 10 10 10 2 2 2, .sl 12 [tnV 1 8 5 nlS p01] .sh, nl0, .int .i64 0]) [] :=
  CFun.run mixed (cfgA [(14, [15000018000003], []), (43, [28], [])]) tbA tbA_ok 400 (by kernel_rfl) (by kernel_rfl)
theorem ex54 : CFun Tryz.prog 43 [.sl 12 [tnV 2 5 3 nl0 p01] .full] [] (.sl 12 [tnV 2 5 3 nlS p01] .sh) [] :=
  CFun.run mixed (cfgA [(43, [28], [])]) tbA tbA_ok 400 (by kernel_rfl) (by kernel_rfl)
def tbB : CallF := fun f args H => if f = 43 then (match args with
  | [.sl 12 [.agg [.int .i64 2, .int .i64 0, .int .i64 1, .int .i64 5, .int .i64 3, .int .i64 3, .int .u32 0, .int .u32 0, .int .i64 0, .sl 0 [] .full, .sl 0 [] .full, .sl 1 [.int .i64 0, .int .i64 1] .sh]] .full] => some (.sl 12 [tnV 2 5 3 nlS p01] .sh, H)
  | _ => none) else tbA f args H
theorem tbB_ok : CallOk Tryz.prog tbB := by
  intro f args H x H' h
  unfold tbB at h
  split at h
  · rename_i hf
    subst hf
    split at h
    · injection h with h; injection h with e1 e2; subst e1 e2
      exact ex54.up' H rfl rfl
    · cases h
  · exact tbA_ok f args H x H' h
theorem ex2 : CFun Tryz.prog 14 [.int .i64 2, lkV 10 10 10 10 10 2 2 2, .sl 12 [tnV 1 8 5 nlS p01] .sh, tnV 2 5 3 nl0 nl0] [] (.tup [lkV 10 10 10 5 5 5 5 5, .sl 12 [tnV 1 8 5 nlS nl0, tnV 2 5 3 nlS p01] .sh, .sl 1 [.int .i64 1] .sh, .int .i64 0]) [] :=
  CFun.run mixed (cfgA [(14, [15000018000003], [(9, 5, true)]), (43, [100031], []), (48, [100025], [])]) tbB tbB_ok 400 (by kernel_rfl) (by kernel_rfl)
theorem ex3 : CFun Tryz.prog 14 [.int .i64 2, lkV 10 10 10 5 5 5 5 5, .sl 12 [tnV 1 8 5 nlS nl0, tnV 2 5 3 nlS p01] .sh, tnV 3 6 7 nl0 nl0] [] (.tup [nl0, nl0, nl0, .int .i64 20]) [] :=
  CFun.run mixed (cfgA [(14, [15000018000003], []), (43, [28], [])]) tbA tbA_ok 400 (by kernel_rfl) (by kernel_rfl)
end Go.Proofs.YtpmmnnaaoideeaaGreat

/- The example of the document holds. -/
namespace Go.Proofs.YtpmmnnaaoideeaaGreat
open Go Go.Am Go.Wk

set_option maxHeartbeats 4000000 in
set_option maxRecDepth 10000 in
theorem t22 (n : Int) : CFun Tryz.prog 26 [.int .i64 n] [] (.agg [.int .i64 n, .int .i64 n, .int .i64 n, .int .i64 n, .int .i64 n, .int .i64 n, .int .i64 n, .int .i64 n]) [] := by
  refine CFun.intro (tr := []) (fz := []) (n := 12) (rs := [.cell 2 56]) Tryz.func26 rfl (by kernel_rfl) rfl rfl mixed (by kernel_rfl) (by simp) (by simp) ?_
  simp
set_option maxHeartbeats 4000000 in
set_option maxRecDepth 10000 in
theorem t25 (id b p : Int) : CFun Tryz.prog 27 [.int .i64 id, .int .i64 b, .int .i64 p] [] (tnV id b p nl0 nl0) [] := by
  refine CFun.intro (tr := []) (fz := []) (n := 13) (rs := [.cell 6 36]) Tryz.func27 rfl (by kernel_rfl) rfl rfl mixed (by kernel_rfl) (by simp) (by simp) ?_
  simp [tnV, nl0]
theorem r2 : (([0, 1] : List Nat) = List.range 2) = True := by decide
theorem ex1f : CFun Tryz.prog 14 [.int .i64 2, .sl 13 [.agg [.int .i64 0, .int .i64 1, .int .i64 1, .int .i64 10, .int .i64 10, .int .i64 10, .int .i64 10, .int .i64 10, .int .i64 10, .int .i64 10, .int .i64 10, .int .i64 10, .int .u32 0]] .full, nl0, tnV 1 8 5 nl0 nl0] [] (.tup [lkV 10 10 10 10 10 2 2 2, .sl 12 [tnV 1 8 5 nlS p01] .sh, nl0, .int .i64 0]) [] :=
  ex1.wk _ (by simp [lkV, tnV, nl0]) ⟨LeS_refl _, by simp [LeS, lkV], LeS_refl _, LeS_refl _, trivial⟩
set_option maxHeartbeats 8000000 in
set_option maxRecDepth 10000 in
theorem t9 : CFun Tryz.prog 7 [] [] (.bool true) [] := by
  refine CFun.intro (tr := []) (fz := []) (n := 99) (rs := [.tmp 0]) Tryz.func7 rfl (by kernel_rfl) rfl rfl mixed (by kernel_rfl) (by simp) (by simp) ?_
  have h22 := t22
  have h25 := t25
  have h1 := ex1f
  have h2 := ex2
  have h3 := ex3
  have s1 := (c17 [1] [1] 1 1 rfl rfl (by decide) (by decide)).wk [.sl 1 [.int .i64 1] .sh, .sl 1 [.int .i64 1] .full] (by simp) (by simp [All2, LeS])
  have s2 := (c17 [0, 1] [0, 1] 2 2 rfl rfl (by decide) (by decide)).wk [.sl 1 [.int .i64 0, .int .i64 1] .sh, .sl 1 [.int .i64 0, .int .i64 1] .full] (by simp) (by simp [All2, LeS])
  simp only [lkV, tnV, nl0, nlS, p01] at *
  simp [r2]
  refine ⟨_, _, .inl (by simpa using h22 10), by simp, ?_⟩
  simp [r2]
  refine ⟨_, _, .inl (by simpa using h25 1 8 5), by simp, ?_⟩
  simp [r2]
  refine ⟨_, _, .inl (by simpa using h1), by simp, ?_⟩
  simp [r2]
  refine ⟨_, _, .inl (by simpa using h25 2 5 3), by simp, ?_⟩
  simp [r2]
  refine ⟨_, _, .inl (by simpa using h2), by simp, ?_⟩
  simp [r2]
  refine ⟨_, _, .inl (by simpa using h25 3 6 7), by simp, ?_⟩
  simp [r2]
  refine ⟨_, _, .inl (by simpa using h3), by simp, ?_⟩
  simp [r2]
  refine ⟨_, _, .inl (by simpa using s1), by simp, ?_⟩
  simp [r2]
  refine ⟨_, _, .inl (by simpa using s2), by simp, ?_⟩
  simp [r2]
end Go.Proofs.YtpmmnnaaoideeaaGreat
