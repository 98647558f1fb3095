/- The least walk: by cost, number of steps, order of the nodes. -/
import Derived.Test.YtgcnlmcpmocbhaaCW1
import Derived.Test.YtgcnlmcpmocbhaaC23
set_option linter.unusedSimpArgs false
set_option linter.unusedVariables false
namespace Go.Wk

/-- One list of nodes stands before another one of the same length. -/
def lexlt : List Nat → List Nat → Prop
  | a :: l, b :: m => a < b ∨ a = b ∧ lexlt l m
  | [], _ :: _ => True
  | _, [] => False
theorem lexlt_irrefl : ∀ l : List Nat, ¬ lexlt l l
  | [], h => h.elim
  | a :: l, h => by
    rcases h with h | h
    · exact absurd h (Nat.lt_irrefl _)
    · exact lexlt_irrefl l h.2
theorem lexlt_trans : ∀ {a b c : List Nat}, lexlt a b → lexlt b c → lexlt a c := by
  intro a
  induction a with
  | nil => intro b c h k; cases b <;> cases c <;> simp_all [lexlt]
  | cons x a ih =>
    intro b c h k
    cases b with
    | nil => simp [lexlt] at h
    | cons y b =>
      cases c with
      | nil => simp [lexlt] at k
      | cons z c =>
        simp only [lexlt] at *
        rcases h with h | ⟨rfl, h⟩ <;> rcases k with k | ⟨rfl, k⟩
        · exact .inl (by omega)
        · exact .inl h
        · exact .inl k
        · exact .inr ⟨rfl, ih h k⟩
theorem lexlt_tri : ∀ (a b : List Nat), lexlt a b ∨ a = b ∨ lexlt b a := by
  intro a
  induction a with
  | nil => intro b; cases b <;> simp [lexlt]
  | cons x a ih =>
    intro b
    cases b with
    | nil => simp [lexlt]
    | cons y b =>
      simp only [lexlt]
      rcases Nat.lt_trichotomy x y with h | h | h
      · exact .inl (.inl h)
      · subst h
        rcases ih b with h | h | h
        · exact .inl (.inr ⟨rfl, h⟩)
        · exact .inr (.inl (by rw [h]))
        · exact .inr (.inr (.inr ⟨rfl, h⟩))
      · exact .inr (.inr (.inl h))
theorem lexlt_asymm {a b : List Nat} (h : lexlt a b) : ¬ lexlt b a := fun k => lexlt_irrefl _ (lexlt_trans h k)
theorem lexlt_snoc : ∀ {a b : List Nat} (x y : Nat), a.length = b.length → (lexlt (a ++ [x]) (b ++ [y]) ↔ lexlt a b ∨ a = b ∧ x < y) := by
  intro a
  induction a with
  | nil => intro b x y h; cases b with
    | nil => simp [lexlt]
    | cons => simp at h
  | cons z a ih =>
    intro b x y h
    cases b with
    | nil => simp at h
    | cons w b =>
      simp at h
      simp only [List.cons_append, lexlt, ih x y h, List.cons.injEq]
      constructor
      · rintro (k | ⟨rfl, k | ⟨rfl, k⟩⟩)
        · exact .inl (.inl k)
        · exact .inl (.inr ⟨rfl, k⟩)
        · exact .inr ⟨⟨rfl, rfl⟩, k⟩
      · rintro ((k | ⟨rfl, k⟩) | ⟨⟨rfl, rfl⟩, k⟩)
        · exact .inl k
        · exact .inr ⟨rfl, .inl k⟩
        · exact .inr ⟨rfl, .inr ⟨rfl, k⟩⟩

/-- The least cost of a walk of so many steps. -/
def Mn (E : List Arc) (z h x c : Nat) : Prop := (∃ ys, W E x ys c z ∧ ys.length = h) ∧ ∀ ys d, W E x ys d z → ys.length = h → c ≤ d
theorem Mn.uniq {E : List Arc} {z h x c d : Nat} (a : Mn E z h x c) (b : Mn E z h x d) : c = d := by
  obtain ⟨⟨ys, h1, h2⟩, h3⟩ := a
  obtain ⟨⟨zs, k1, k2⟩, k3⟩ := b
  have := h3 _ _ k1 k2
  have := k3 _ _ h1 h2
  omega
theorem Mn.exists {E : List Arc} {z h x : Nat} : ∀ {c : Nat} {ys : List Nat}, W E x ys c z → ys.length = h → ∃ d, Mn E z h x d := by
  intro c
  induction c using Nat.strongRecOn with
  | ind c ih =>
    intro ys hw hl
    by_cases hx : ∃ d zs, d < c ∧ W E x zs d z ∧ zs.length = h
    · obtain ⟨d, zs, h1, h2, h3⟩ := hx
      exact ih d h1 h2 h3
    · refine ⟨c, ⟨ys, hw, hl⟩, fun zs d h1 h2 => ?_⟩
      rcases Nat.lt_or_ge d c with h3 | h3
      · exact absurd ⟨d, zs, h3, h1, h2⟩ hx
      · exact h3
theorem Mn.tail {E : List Arc} {z h x y a c : Nat} {ys : List Nat} (hm : Mn E z (h + 1) x c) (h1 : (x, y, a) ∈ E) {d : Nat} (h2 : W E y ys d z) (h3 : ys.length = h) (h4 : c = a + d) : Mn E z h y d := by
  refine ⟨⟨ys, h2, h3⟩, fun zs e k1 k2 => ?_⟩
  have := hm.2 (y :: zs) (a + e) (.cons h1 k1) (by simp [k2])
  omega

/-- The least cost, and with it the least number of steps. -/
def Dn (E : List Arc) (z x c h : Nat) : Prop := (∃ ys, W E x ys c z ∧ ys.length = h) ∧ ∀ ys d, W E x ys d z → c < d ∨ c = d ∧ h ≤ ys.length
theorem Dn.uniq {E : List Arc} {z x c d h k : Nat} (a : Dn E z x c h) (b : Dn E z x d k) : c = d ∧ h = k := by
  obtain ⟨⟨ys, h1, h2⟩, h3⟩ := a
  obtain ⟨⟨zs, k1, k2⟩, k3⟩ := b
  have := h3 _ _ k1
  have := k3 _ _ h1
  omega
theorem Dn.mn {E : List Arc} {z x c h : Nat} (a : Dn E z x c h) : Mn E z h x c := by
  refine ⟨a.1, fun ys d h1 h2 => ?_⟩
  have := a.2 _ _ h1
  omega
theorem Dn.step {E : List Arc} {z x y a c h : Nat} (hx : Dn E z x c (h + 1)) (ha : (x, y, a) ∈ E) (d : Nat) : Mn E z h y d ∧ c = a + d ↔ ∃ e, Dn E z y d e ∧ c = a + d ∧ e = h := by
  constructor
  · rintro ⟨hm, rfl⟩
    refine ⟨h, ⟨hm.1, fun ys b h1 => ?_⟩, rfl, rfl⟩
    have := hx.2 _ _ (W.cons ha h1)
    simp at this
    omega
  · rintro ⟨e, hd, rfl, rfl⟩
    exact ⟨hd.mn, rfl⟩
theorem Dn.hops {E : List Arc} (hE : ∀ a ∈ E, 1 ≤ a.2.2) {n : Nat} (hn : ∀ a ∈ E, a.2.1 < n) {z x c h : Nat} (hx : x < n) (hd : Dn E z x c h) : h + 1 ≤ n := by
  obtain ⟨ys, h1, h2⟩ := hd.1
  rcases W.simple hE (Nat.le_refl _) h1 with h3 | ⟨zs, d, h3, h4⟩
  · have := nodup_length h3 (n := n) (fun y hy => by
      rcases List.mem_cons.1 hy with rfl | hy
      · exact hx
      · obtain ⟨u, a, k⟩ := h1.mem hy
        exact hn _ k)
    simp at this
    omega
  · have := hd.2 _ _ h3
    omega

/-- The least walk among those of at most so many steps. -/
structure Best (E : List Arc) (nd : Nat → Nat) (lim : Nat → Prop) (x z : Nat) (ys : List Nat) (c : Nat) : Prop where
  w : W E x ys c z
  l : lim ys.length
  le : ∀ zs d, W E x zs d z → lim zs.length → c < d ∨ c = d ∧ (ys.length < zs.length ∨ ys.length = zs.length ∧ ¬ lexlt (zs.map nd) (ys.map nd))
theorem Best.uniq {E : List Arc} {nd : Nat → Nat} {lim : Nat → Prop} {x z : Nat} {ys zs : List Nat} {c d : Nat} (a : Best E nd lim x z ys c) (b : Best E nd lim x z zs d) : ys.map nd = zs.map nd ∧ c = d := by
  have h1 := a.le _ _ b.w b.l
  have h2 := b.le _ _ a.w a.l
  have h3 := lexlt_tri (ys.map nd) (zs.map nd)
  refine ⟨?_, by omega⟩
  rcases h3 with h3 | h3 | h3
  · rcases h2 with h2 | ⟨_, h2 | h2⟩
    · omega
    · omega
    · exact absurd h3 h2.2
  · exact h3
  · rcases h1 with h1 | ⟨_, h1 | h1⟩
    · omega
    · omega
    · exact absurd h3 h1.2

/-- Step by step to the least next node among those from which the rest of the cost leads on. -/
inductive Fol (E : List Arc) (nd : Nat → Nat) (z : Nat) : Nat → Nat → Nat → List Nat → Prop
  | nil (x : Nat) : Fol E nd z 0 x 0 []
  | cons {h x y a c : Nat} {ys : List Nat} (he : (x, y, a) ∈ E) (hm : Mn E z h y c) (hl : ∀ y' a' c', (x, y', a') ∈ E → Mn E z h y' c' → a + c = a' + c' → nd y ≤ nd y') (t : Fol E nd z h y c ys) : Fol E nd z (h + 1) x (a + c) (y :: ys)
theorem Fol.best {E : List Arc} {nd : Nat → Nat} {z : Nat} (hinj : ∀ x y y' a a', (x, y, a) ∈ E → (x, y', a') ∈ E → nd y = nd y' → y = y' ∧ a = a') {h x c : Nat} {ys : List Nat} (hf : Fol E nd z h x c ys) (hm : Mn E z h x c) :
    W E x ys c z ∧ ys.length = h ∧ ∀ zs, W E x zs c z → zs.length = h → ¬ lexlt (zs.map nd) (ys.map nd) := by
  induction hf with
  | nil x =>
    obtain ⟨⟨ys, h1, h2⟩, _⟩ := hm
    have : ys = [] := List.length_eq_zero_iff.1 h2
    subst this
    refine ⟨h1, rfl, fun zs _ hz => ?_⟩
    have : zs = [] := List.length_eq_zero_iff.1 hz
    subst this
    simp [lexlt]
  | @cons h x y a c ys he hmy hl t ih =>
    obtain ⟨k1, k2, k3⟩ := ih hmy
    refine ⟨.cons he k1, by simp [k2], fun zs hw hz => ?_⟩
    cases zs with
    | nil => simp at hz
    | cons y' zs =>
      obtain ⟨a', d', h1, h2, h3⟩ := hw.cons_inv
      simp at hz
      have hm' := hm.tail h1 h2 hz h3
      have hle := hl _ _ _ h1 hm' h3
      simp only [List.map_cons, lexlt]
      rintro (h4 | ⟨h4, h5⟩)
      · omega
      · obtain ⟨rfl, rfl⟩ := hinj _ _ _ _ _ h1 he h4
        have : c = d' := by omega
        subst this
        exact k3 _ h2 hz h5
end Go.Wk

/- The search from the goal: what is settled is right, whatever is taken next. -/
namespace Go.Wk

def fset {α : Type} (f : Nat → Option α) (x : Nat) (v : Option α) : Nat → Option α := fun y => if y = x then v else f y
@[simp] theorem fset_same {α : Type} {f : Nat → Option α} {x : Nat} {v : Option α} : fset f x v x = v := by simp [fset]
theorem fset_ne {α : Type} {f : Nat → Option α} {x y : Nat} {v : Option α} (h : y ≠ x) : fset f x v y = f y := by simp [fset, h]

structure DI (E : List Arc) (z n : Nat) (B : Nat → Option (Nat × Nat)) (q : Nat → Option Nat) (pend : Arc → Prop) : Prop where
  a : ∀ x c h, B x = some (c, h) → Dn E z x c h
  b : ∀ x k, q x = some k → B x = none ∧ x < n ∧ ∃ c h ys, k = c * 65536 + h ∧ W E x ys c z ∧ ys.length = h ∧ h ≤ n
  c0 : B z = none → q z = some 0
  c : ∀ x y a c h, (x, y, a) ∈ E → ¬ pend (x, y, a) → B x = none → B y = some (c, h) → ∃ k, q x = some k ∧ k ≤ (c + a) * 65536 + (h + 1)

theorem DI.start {E : List Arc} {z n : Nat} (hz : z < n) : DI E z n (fun _ => none) (fset (fun _ => none) z (some 0)) (fun _ => False) := by
  refine ⟨fun x c h e => by simp at e, fun x k e => ?_, fun _ => fset_same, fun x y a c h _ _ _ e => by simp at e⟩
  by_cases hx : x = z
  · subst hx
    simp at e
    subst e
    exact ⟨rfl, hz, 0, 0, [], rfl, .nil _, rfl, by omega⟩
  · rw [fset_ne hx] at e
    cases e
/-- From a state that is not settled every walk passes the queue. -/
theorem DI.pass {E : List Arc} (hE : ∀ a ∈ E, 1 ≤ a.2.2) {z n : Nat} (hn : ∀ a ∈ E, a.2.1 < n) {B : Nat → Option (Nat × Nat)} {q : Nat → Option Nat} (h : DI E z n B q (fun _ => False)) {x c : Nat} {ys : List Nat} (hw : W E x ys c z) (hx : B x = none) :
    ∃ y k d j, q y = some k ∧ k ≤ d * 65536 + j ∧ j ≤ n ∧ (d < c ∨ d = c ∧ j ≤ ys.length) := by
  induction hw with
  | nil x => exact ⟨x, 0, 0, 0, h.c0 hx, by omega, by omega, .inr ⟨rfl, Nat.le_refl _⟩⟩
  | @cons x y z a d ys he t ih =>
    cases hy : B y with
    | none =>
      obtain ⟨u, k, e, j, h1, h2, h4, h3⟩ := ih h hy
      refine ⟨u, k, e, j, h1, h2, h4, ?_⟩
      simp
      omega
    | some p =>
      obtain ⟨c, j⟩ := p
      obtain ⟨k, h1, h2⟩ := h.c x y a c j he (fun h => h) hx hy
      have hd := h.a _ _ _ hy
      have := hd.2 _ _ t
      have := hd.hops hE hn (hn _ he)
      refine ⟨x, k, c + a, j + 1, h1, h2, by omega, ?_⟩
      simp
      omega
theorem DI.pop {E : List Arc} (hE : ∀ a ∈ E, 1 ≤ a.2.2) {z n : Nat} (hn : ∀ a ∈ E, a.2.1 < n) (hn2 : n < 65536) {B : Nat → Option (Nat × Nat)} {q : Nat → Option Nat} (h : DI E z n B q (fun _ => False)) {x k : Nat} (hx : q x = some k)
    (hm : ∀ y k', q y = some k' → k ≤ k') : DI E z n (fset B x (some (k / 65536, k % 65536))) (fset q x none) (fun a => a.2.1 = x) := by
  obtain ⟨hb, hxn, c, j, ys, hk, hw, hl, hj⟩ := h.b x k hx
  have e1 : k / 65536 = c := by omega
  have e2 : k % 65536 = j := by omega
  rw [e1, e2]
  have hd : Dn E z x c j := by
    refine ⟨⟨ys, hw, hl⟩, fun zs d hz => ?_⟩
    obtain ⟨y, k', d', j', h1, h2, h4, h3⟩ := h.pass hE hn hz hb
    have := hm _ _ h1
    omega
  refine ⟨fun y c' h' e => ?_, fun y k' e => ?_, fun e => ?_, fun u y a c' h' he hp e1 e2 => ?_⟩
  · by_cases hy : y = x
    · subst hy
      simp at e
      obtain ⟨rfl, rfl⟩ := e
      exact hd
    · rw [fset_ne hy] at e
      exact h.a _ _ _ e
  · by_cases hy : y = x
    · subst hy
      simp at e
    · rw [fset_ne hy] at e
      rw [fset_ne hy]
      exact h.b _ _ e
  · by_cases hy : z = x
    · subst hy
      simp at e
    · rw [fset_ne hy] at e ⊢
      exact h.c0 e
  · have hu : u ≠ x := by
      rintro rfl
      simp at e1
    have hy : y ≠ x := hp
    rw [fset_ne hu] at e1 ⊢
    rw [fset_ne hy] at e2
    exact h.c _ _ _ _ _ he (fun h => h) e1 e2
/-- One arc into the state just settled. -/
def relax (B : Nat → Option (Nat × Nat)) (q : Nat → Option Nat) (x v : Nat) : Nat → Option Nat :=
  if B x = none ∧ (q x = none ∨ ∃ k, q x = some k ∧ v < k) then fset q x (some v) else q
theorem DI.relax {E : List Arc} (hE : ∀ a ∈ E, 1 ≤ a.2.2) {z n : Nat} (hn : ∀ a ∈ E, a.2.1 < n) (hn1 : ∀ a ∈ E, a.1 < n) {B : Nat → Option (Nat × Nat)} {q : Nat → Option Nat} {pend : Arc → Prop} (h : DI E z n B q pend) {x y a c j : Nat} (he : (x, y, a) ∈ E) (hy : B y = some (c, j)) :
    DI E z n B (relax B q x ((c + a) * 65536 + (j + 1))) (fun b => pend b ∧ b ≠ (x, y, a)) := by
  have hd := h.a _ _ _ hy
  obtain ⟨ys, hw, hl⟩ := hd.1
  have hj := hd.hops hE hn (hn _ he)
  unfold Wk.relax
  split
  · rename_i hc
    obtain ⟨hb, hq⟩ := hc
    refine ⟨h.a, fun u k e => ?_, fun e => ?_, fun u w b c' h' he' hp e1 e2 => ?_⟩
    · by_cases hu : u = x
      · subst hu
        simp at e
        subst e
        exact ⟨hb, hn1 _ he, c + a, j + 1, y :: ys, rfl, by rw [Nat.add_comm]; exact .cons he hw, by simp [hl], by omega⟩
      · rw [fset_ne hu] at e
        exact h.b _ _ e
    · by_cases hu : z = x
      · subst hu
        exfalso
        rw [h.c0 e] at hq
        rcases hq with hq | ⟨k, hq, hk⟩
        · cases hq
        · injection hq with hq
          omega
      · rw [fset_ne hu]
        exact h.c0 e
    · by_cases hu : u = x
      · subst hu
        refine ⟨_, fset_same, ?_⟩
        by_cases hp' : pend (u, w, b)
        · have : (u, w, b) = (u, y, a) := by
            by_cases hh : (u, w, b) = (u, y, a)
            · exact hh
            · exact absurd ⟨hp', hh⟩ hp
          simp only [Prod.mk.injEq, true_and] at this
          obtain ⟨rfl, rfl⟩ := this
          rw [hy] at e2
          injection e2 with e2
          injection e2 with e2 e3
          subst e2 e3
          exact Nat.le_refl _
        · obtain ⟨k, h1, h2⟩ := h.c _ _ _ _ _ he' hp' e1 e2
          rcases hq with hq | ⟨k', hq, hk⟩
          · rw [hq] at h1
            cases h1
          · rw [hq] at h1
            injection h1 with h1
            omega
      · rw [fset_ne hu]
        refine h.c _ _ _ _ _ he' (fun hp' => hp ⟨hp', fun hh => hu ?_⟩) e1 e2
        injection hh
  · rename_i hc
    refine ⟨h.a, h.b, h.c0, fun u w b c' h' he' hp e1 e2 => ?_⟩
    by_cases hp' : pend (u, w, b)
    · have : (u, w, b) = (x, y, a) := by
        by_cases hh : (u, w, b) = (x, y, a)
        · exact hh
        · exact absurd ⟨hp', hh⟩ hp
      simp only [Prod.mk.injEq] at this
      obtain ⟨rfl, rfl, rfl⟩ := this
      rw [hy] at e2
      injection e2 with e2
      injection e2 with e2 e3
      subst e2 e3
      cases hq : q u with
      | none => exact absurd ⟨e1, .inl hq⟩ hc
      | some k =>
        refine ⟨k, rfl, ?_⟩
        rcases Nat.lt_or_ge ((c + b) * 65536 + (j + 1)) k with h1 | h1
        · exact absurd ⟨e1, .inr ⟨k, hq, h1⟩⟩ hc
        · exact h1
    · exact h.c _ _ _ _ _ he' hp' e1 e2
theorem DI.less {E : List Arc} {z n : Nat} {B : Nat → Option (Nat × Nat)} {q : Nat → Option Nat} {pend pend' : Arc → Prop} (h : DI E z n B q pend) (hp : ∀ a ∈ E, pend a → pend' a) : DI E z n B q pend' :=
  ⟨h.a, h.b, h.c0, fun x y a c j he hn => h.c x y a c j he (fun hh => hn (hp _ he hh))⟩
/-- At the end what is not settled has no walk. -/
theorem DI.done {E : List Arc} (hE : ∀ a ∈ E, 1 ≤ a.2.2) {z n : Nat} (hn : ∀ a ∈ E, a.2.1 < n) {B : Nat → Option (Nat × Nat)} {q : Nat → Option Nat} (h : DI E z n B q (fun _ => False)) (hq : ∀ x, q x = none) {x : Nat} (hx : B x = none) {ys : List Nat} {c : Nat} : ¬ W E x ys c z := by
  intro hw
  obtain ⟨y, k, _, _, h1, _⟩ := h.pass hE hn hw hx
  rw [hq y] at h1
  cases h1
end Go.Wk

/- The search: from each state to the goal. -/
namespace Go.Proofs.Ytgcnlmcpmocbhaa
open Go Go.Am Go.Wk

def ceP (p : Int × Int) : List AVal := [.int .i64 p.1, .int .i64 p.2]
theorem ePe : Enc ceP 2 := ⟨by decide, fun _ => rfl, fun _ => rfl, fun _ => rfl⟩
theorem rowP_0 {l : List (Int × Int)} {i : Nat} {p : Int × Int} (h : l[i]? = some p) : (rowC ceP l)[i * 2]? = some (.int .i64 p.1) := by
  have := (ePe.rowAt h []).1
  rw [List.append_nil] at this
  have h2 : (((rowC ceP l).drop (i * 2)).take 2)[0]? = some (.int .i64 p.1) := by rw [this]; rfl
  simpa using h2
theorem rowP_1 {l : List (Int × Int)} {i : Nat} {p : Int × Int} (h : l[i]? = some p) : (rowC ceP l)[i * 2 + 1]? = some (.int .i64 p.2) := by
  have := (ePe.rowAt h []).1
  rw [List.append_nil] at this
  have h2 : (((rowC ceP l).drop (i * 2)).take 2)[1]? = some (.int .i64 p.2) := by rw [this]; rfl
  simpa using h2
/-- The first Set among other variables. -/
theorem setFirst {N : Nat} {ks : List Int} (hk : ks.length = N) (x : Nat) (hxN : x < N) (v : Int) {H : List (List AVal)} {a q r : Nat} (d1 : a ≠ q) (d2 : a ≠ r) (d3 : q ≠ r)
    (ha : H[a]? = some [.sl 0 [] .full, .osl q 0 N (some N) 1, .osl r 0 N (some N) 1]) (hq : H[q]? = some (rowZ (plOf N []))) (hr : H[r]? = some (rowZ ks)) :
    CFun Try.prog 65 [.ptr a 0, .int .i64 x, .int .i64 v] H (.bool true) ((((H.set a [.osl H.length 0 1 none 1, .osl q 0 N (some N) 1, .osl r 0 N (some N) 1]).set q (rowZ (plOf N [x]))).set r (rowZ (ks.set x v))) ++ [rowN [x]]) := by
  have la := (List.getElem?_eq_some_iff.1 ha).1
  have lq := (List.getElem?_eq_some_iff.1 hq).1
  have lr := (List.getElem?_eq_some_iff.1 hr).1
  have h := c65n N ks hk x hxN v
  have h3 : ∀ i, i < 3 → i = 0 ∨ i = 1 ∨ i = 2 := by omega
  have h4 : ∀ i, i < 4 → i = 0 ∨ i = 1 ∨ i = 2 ∨ i = 3 := by omega
  have := h.lift (fun i => if i = 0 then q else if i = 1 then r else a) (H := H) (H' := ((((H.set a [.osl H.length 0 1 none 1, .osl q 0 N (some N) 1, .osl r 0 N (some N) 1]).set q (rowZ (plOf N [x]))).set r (rowZ (ks.set x v))) ++ [rowN [x]]))
    (fun i hi => by rcases h3 i hi with rfl | rfl | rfl <;> simp only [Nat.succ_ne_zero, if_true, if_false] <;> first | exact lq | exact lr | exact la)
    (fun i j hi hj e => by
      rcases h3 i hi with rfl | rfl | rfl <;> rcases h3 j hj with rfl | rfl | rfl <;> simp at e <;> first | rfl | (exact absurd e (by assumption)) | (exact absurd e.symm (by assumption)))
    (fun i cs hi => by
      have hi4 : i < 3 := (List.getElem?_eq_some_iff.1 hi).1
      rcases h3 i hi4 with rfl | rfl | rfl <;> simp only [List.getElem?_cons_zero, List.getElem?_cons_succ, Option.some.injEq] at hi <;> subst hi
      · rw [ren_rowZ]; exact ⟨hq, low_rowZ _ _⟩
      · rw [ren_rowZ]; exact ⟨hr, low_rowZ _ _⟩
      · exact ⟨ha, rfl⟩)
    rfl (by simp)
    (fun i cs hi => by
      have hi4 : i < 4 := (List.getElem?_eq_some_iff.1 hi).1
      rcases h4 i hi4 with rfl | rfl | rfl | rfl <;> simp only [List.getElem?_cons_zero, List.getElem?_cons_succ, Option.some.injEq] at hi <;> subst hi
      · rw [ren_rowZ]
        refine ⟨?_, low_rowZ _ _⟩
        show (_ ++ _)[q]? = _
        rw [List.getElem?_append_left (by simpa using lq), List.getElem?_set_ne d3.symm, List.getElem?_set_self (by simpa using lq)]
      · rw [ren_rowZ]
        refine ⟨?_, low_rowZ _ _⟩
        show (_ ++ _)[r]? = _
        rw [List.getElem?_append_left (by simpa using lr), List.getElem?_set_self (by simpa using lr)]
      · refine ⟨?_, rfl⟩
        show (_ ++ _)[a]? = _
        rw [List.getElem?_append_left (by simpa using la), List.getElem?_set_ne d2.symm, List.getElem?_set_ne d1.symm, List.getElem?_set_self la]
        simp [ren0, grow]
      · rw [ren_rowN]
        refine ⟨?_, low_rowN _ _⟩
        have e : grow (fun i => if i = 0 then q else if i = 1 then r else a) [rowZ (plOf N []), rowZ ks, [AVal.sl 0 [] Mode.full, AVal.osl 0 0 N (some N) 1, AVal.osl 1 0 N (some N) 1]].length H.length 3 = H.length := by simp [grow]
        rw [e, List.getElem?_append_right (by simp)]
        simp)
    (fun k hk hne => by
      have e0 : q ≠ k := hne 0 (by simp)
      have e1 : r ≠ k := hne 1 (by simp)
      have e2 : a ≠ k := hne 2 (by simp)
      rw [List.getElem?_append_left (by simpa using hk), List.getElem?_set_ne e1, List.getElem?_set_ne e0, List.getElem?_set_ne e2])
    rfl
  exact this
/-- Set of a number that is not there, among other variables. -/
theorem setNew {N n : Nat} {its jk : List Nat} {ks : List Int} (hk : ks.length = N) (hn : n + 1 < 1000000) (hl : its.length = n) (hd : its.Nodup) (hN : ∀ x ∈ its, x < N) (hne : its ++ jk ≠ []) (x : Nat) (hx : x ∉ its) (hxN : x < N) (v : Int)
    {H : List (List AVal)} {a p q r : Nat}
    (d1 : a ≠ p) (d2 : a ≠ q) (d3 : a ≠ r) (d4 : p ≠ q) (d5 : p ≠ r) (d6 : q ≠ r) (ha : H[a]? = some [.osl p 0 n none 1, .osl q 0 N (some N) 1, .osl r 0 N (some N) 1]) (hp : H[p]? = some (rowN (its ++ jk))) (hq : H[q]? = some (rowZ (plOf N its))) (hr : H[r]? = some (rowZ ks)) :
    CFun Try.prog 65 [.ptr a 0, .int .i64 x, .int .i64 v] H (.bool true)
      (((((H.set a [.osl H.length 0 (n + 1) none 1, .osl q 0 N (some N) 1, .osl r 0 N (some N) 1]).set p []).set q (rowZ (plOf N (settleH (ks.set x v) (its ++ [x]) n)))).set r (rowZ (ks.set x v))) ++ [rowN (settleH (ks.set x v) (its ++ [x]) n)]) := by
  have la := (List.getElem?_eq_some_iff.1 ha).1
  have lp := (List.getElem?_eq_some_iff.1 hp).1
  have lq := (List.getElem?_eq_some_iff.1 hq).1
  have lr := (List.getElem?_eq_some_iff.1 hr).1
  have h := c65b N jk ks hk n hn its hl hd hN hne x hx hxN v
  simp only [hH, hB, hl] at h
  have h4 : ∀ i, i < 4 → i = 0 ∨ i = 1 ∨ i = 2 ∨ i = 3 := by omega
  have h5 : ∀ i, i < 5 → i = 0 ∨ i = 1 ∨ i = 2 ∨ i = 3 ∨ i = 4 := by omega
  have := h.lift (four a p q r) (H := H) (H' := (((((H.set a [.osl H.length 0 (n + 1) none 1, .osl q 0 N (some N) 1, .osl r 0 N (some N) 1]).set p []).set q (rowZ (plOf N (settleH (ks.set x v) (its ++ [x]) n)))).set r (rowZ (ks.set x v))) ++ [rowN (settleH (ks.set x v) (its ++ [x]) n)]))
    (fun i hi => by rcases h4 i hi with rfl | rfl | rfl | rfl <;> simp only [four] <;> assumption)
    (fun i j hi hj e => by
      rcases h4 i hi with rfl | rfl | rfl | rfl <;> rcases h4 j hj with rfl | rfl | rfl | rfl <;> simp only [four] at e <;> first | rfl | (exact absurd e (by assumption)) | (exact absurd e.symm (by assumption)))
    (fun i cs hi => by
      have hi4 : i < 4 := (List.getElem?_eq_some_iff.1 hi).1
      rcases h4 i hi4 with rfl | rfl | rfl | rfl <;> simp only [List.getElem?_cons_zero, List.getElem?_cons_succ, Option.some.injEq] at hi <;> subst hi <;> simp only [four]
      · exact ⟨ha, rfl⟩
      · rw [ren_rowN]; exact ⟨hp, low_rowN _ _⟩
      · rw [ren_rowZ]; exact ⟨hq, low_rowZ _ _⟩
      · rw [ren_rowZ]; exact ⟨hr, low_rowZ _ _⟩)
    rfl (by simp)
    (fun i cs hi => by
      have hi4 : i < 5 := (List.getElem?_eq_some_iff.1 hi).1
      rcases h5 i hi4 with rfl | rfl | rfl | rfl | rfl <;> simp only [List.getElem?_cons_zero, List.getElem?_cons_succ, Option.some.injEq] at hi <;> subst hi
      · refine ⟨?_, rfl⟩
        show (_ ++ _)[a]? = _
        rw [List.getElem?_append_left (by simpa using la), List.getElem?_set_ne d3.symm, List.getElem?_set_ne d2.symm, List.getElem?_set_ne d1.symm, List.getElem?_set_self la]
        simp [ren0, grow, four]
      · refine ⟨?_, rfl⟩
        show (_ ++ _)[p]? = _
        rw [List.getElem?_append_left (by simpa using lp), List.getElem?_set_ne d5.symm, List.getElem?_set_ne d4.symm, List.getElem?_set_self (by simpa using lp)]
        rfl
      · rw [ren_rowZ]
        refine ⟨?_, low_rowZ _ _⟩
        show (_ ++ _)[q]? = _
        rw [List.getElem?_append_left (by simpa using lq), List.getElem?_set_ne d6.symm, List.getElem?_set_self (by simpa using lq)]
      · rw [ren_rowZ]
        refine ⟨?_, low_rowZ _ _⟩
        show (_ ++ _)[r]? = _
        rw [List.getElem?_append_left (by simpa using lr), List.getElem?_set_self (by simpa using lr)]
      · rw [ren_rowN]
        refine ⟨?_, low_rowN _ _⟩
        have e : grow (four a p q r) [[AVal.osl 1 0 n none 1, AVal.osl 2 0 N (some N) 1, AVal.osl 3 0 N (some N) 1], rowN (its ++ jk), rowZ (plOf N its), rowZ ks].length H.length 4 = H.length := by simp [grow]
        rw [e, List.getElem?_append_right (by simp)]
        simp)
    (fun k hk hne => by
      have e0 := hne 0 (by simp)
      have e1 := hne 1 (by simp)
      have e2 := hne 2 (by simp)
      have e3 := hne 3 (by simp)
      simp only [four] at e0 e1 e2 e3
      rw [List.getElem?_append_left (by simpa using hk), List.getElem?_set_ne e3, List.getElem?_set_ne e2, List.getElem?_set_ne e1, List.getElem?_set_ne e0])
    rfl
  exact this
end Go.Proofs.Ytgcnlmcpmocbhaa

/- The heap as a map from numbers to keys. No program. -/
namespace Go.Wk
open Go.Proofs.Ytgcnlmcpmocbhaa (popL settle_perm)

structure HI (sz : Nat) (its : List Nat) (ks : List Int) : Prop where
  nd : its.Nodup
  lt : ∀ x ∈ its, x < sz
  len : ks.length = sz
  ok : HeapOk ks its
  pos : ∀ x ∈ its, 0 ≤ ks.getD x 0
def qOf (its : List Nat) (ks : List Int) (x : Nat) : Option Nat := if x ∈ its then some (ks.getD x 0).toNat else none
theorem getD_set {ks : List Int} {x y : Nat} {v : Int} (hx : x < ks.length) : (ks.set x v).getD y 0 = if y = x then v else ks.getD y 0 := by
  simp only [List.getD_eq_getElem?_getD, List.getElem?_set]
  by_cases e : y = x
  · subst e; simp [hx]
  · rw [if_neg (Ne.symm e), if_neg e]
theorem HI.set {sz : Nat} {its its' : List Nat} {ks : List Int} (h : HI sz its ks) {x v : Nat} (hx : x < sz) (hp : ∀ y, y ∈ its' ↔ y = x ∨ y ∈ its) (hn : its'.Nodup) (hok : HeapOk (ks.set x v) its') :
    HI sz its' (ks.set x v) ∧ qOf its' (ks.set x v) = fset (qOf its ks) x (some v) := by
  have hxl : x < ks.length := by rw [h.len]; exact hx
  refine ⟨⟨hn, fun y hy => ?_, by simp [h.len], hok, fun y hy => ?_⟩, ?_⟩
  · rcases (hp y).1 hy with rfl | hy
    · exact hx
    · exact h.lt y hy
  · rw [getD_set hxl]
    split
    · omega
    · rename_i e
      exact h.pos y (((hp y).1 hy).resolve_left e)
  · funext y
    unfold qOf fset
    rw [getD_set hxl]
    by_cases e : y = x
    · subst e
      rw [if_pos ((hp y).2 (.inl rfl)), if_pos rfl, if_pos rfl]
      simp
    · rw [if_neg e, if_neg e]
      by_cases hy : y ∈ its
      · simp only [if_pos hy, if_pos ((hp y).2 (.inr hy))]
      · simp only [if_neg hy, if_neg (fun hh => ((hp y).1 hh).elim e hy)]
theorem HI.old {sz : Nat} {its : List Nat} {ks : List Int} (h : HI sz its ks) {x v : Nat} (hx : x ∈ its) :
    HI sz (settleH (ks.set x v) its (its.idxOf x)) (ks.set x v) ∧ qOf (settleH (ks.set x v) its (its.idxOf x)) (ks.set x v) = fset (qOf its ks) x (some v) := by
  have hp := settle_perm (ks := ks.set x v) (get_idx hx).2
  refine h.set (h.lt x hx) (fun y => ?_) (hp.nodup_iff.2 h.nd) (set_old h.nd h.ok hx v)
  rw [hp.mem_iff]
  constructor
  · exact .inr
  · rintro (rfl | hy)
    · exact hx
    · exact hy
theorem HI.new {sz : Nat} {its : List Nat} {ks : List Int} (h : HI sz its ks) {x v : Nat} (hx : x ∉ its) (hxs : x < sz) :
    HI sz (settleH (ks.set x v) (its ++ [x]) its.length) (ks.set x v) ∧ qOf (settleH (ks.set x v) (its ++ [x]) its.length) (ks.set x v) = fset (qOf its ks) x (some v) := by
  have hp := settle_perm (ks := ks.set x v) (l := its ++ [x]) (i := its.length) (by simp)
  have hd : (its ++ [x]).Nodup := by rw [List.nodup_append]; exact ⟨h.nd, by simp, fun a ha b hb e => by simp at hb; subst hb e; exact hx ha⟩
  refine h.set hxs (fun y => ?_) (hp.nodup_iff.2 hd) (set_new h.ok hx v)
  rw [hp.mem_iff]
  simp only [List.mem_append, List.mem_singleton]
  exact Or.comm
theorem HI.pop {sz : Nat} {its : List Nat} {ks : List Int} (h : HI sz its ks) {n : Nat} (hl : its.length = n + 1) {x : Nat} (hx : its.getD 0 0 = x) :
    HI sz (popL ks its) ks ∧ qOf (popL ks its) ks = fset (qOf its ks) x none ∧ qOf its ks x = some (ks.getD x 0).toNat ∧ x < sz ∧ 0 ≤ ks.getD x 0 ∧ ∀ y k', qOf its ks y = some k' → (ks.getD x 0).toNat ≤ k' := by
  have hxm : x ∈ its := hx ▸ get_mem (by omega)
  have h3 : (sw its 0 n)[n]? = some x := by
    have h0 : n < (sw its 0 n).length := by rw [sw_len]; omega
    have h1 : (sw its 0 n).getD n 0 = x := by rw [sw_get (by omega) (by omega), if_pos rfl]; exact hx
    rw [← h1]
    simp [List.getD_eq_getElem?_getD, h0]
  have hs := List.take_add_one (l := sw its 0 n) (i := n)
  rw [h3, List.take_of_length_le (by rw [sw_len]; omega)] at hs
  have hp := sw_perm its (i := 0) (j := n) (by omega) (by omega)
  have hl2 : ((sw its 0 n).take n).length = n := by simp [sw_len]; omega
  have hpop := pop_ok hl h.ok
  have hpe : popL ks its = if 0 < n then settleH ks ((sw its 0 n).take n) 0 else (sw its 0 n).take n := by unfold popL; rw [hl, Nat.add_sub_cancel]
  have hpp : (popL ks its).Perm ((sw its 0 n).take n) := by
    rw [hpe]
    split
    · exact settle_perm (by omega)
    · exact .refl _
  generalize (sw its 0 n).take n = its2 at *
  rw [hs] at hp
  have hp : (its2 ++ [x]).Perm its := by simpa using hp
  have hnd := hp.nodup_iff.2 h.nd
  have hx2 : x ∉ its2 := fun hh => ((List.nodup_append.1 hnd).2.2 x hh x (by simp)) rfl
  have hm : ∀ y, y ∈ popL ks its ↔ y ∈ its ∧ y ≠ x := by
    intro y
    rw [hpp.mem_iff, ← hp.mem_iff]
    simp only [List.mem_append, List.mem_singleton]
    constructor
    · intro hy; exact ⟨.inl hy, fun e => hx2 (e ▸ hy)⟩
    · rintro ⟨hy | hy, hne⟩
      · exact hy
      · exact absurd hy hne
  refine ⟨⟨hpp.nodup_iff.2 (List.nodup_append.1 hnd).1, fun y hy => h.lt y ((hm y).1 hy).1, h.len, by rw [hpe]; exact hpop, fun y hy => h.pos y ((hm y).1 hy).1⟩, ?_, ?_, h.lt x hxm, h.pos x hxm, fun y k' hk => ?_⟩
  · funext y
    unfold qOf fset
    by_cases e : y = x
    · subst e
      rw [if_neg (fun hh => ((hm y).1 hh).2 rfl), if_pos rfl]
    · rw [if_neg e]
      by_cases hy : y ∈ its
      · simp only [if_pos hy, if_pos ((hm y).2 ⟨hy, e⟩)]
      · simp only [if_neg hy, if_neg (fun hh => hy ((hm y).1 hh).1)]
  · unfold qOf
    rw [if_pos hxm]
  · unfold qOf at hk
    split at hk
    · rename_i hy
      injection hk with hk
      subst hk
      have := heap_min h.ok hy
      rw [hx] at this
      omega
    · cases hk
theorem HI.first {sz x : Nat} (hx : x < sz) {ks : List Int} (hk : ks.length = sz) (v : Nat) : HI sz [x] (ks.set x v) ∧ qOf [x] (ks.set x v) = fset (fun _ => none) x (some v) := by
  refine ⟨⟨by simp, by simp; exact hx, by simp [hk], fun j a b => by simp at b; omega, fun y hy => ?_⟩, ?_⟩
  · simp at hy; subst hy
    rw [getD_set (by omega), if_pos rfl]
    omega
  · funext y
    unfold qOf fset
    rw [getD_set (by omega)]
    by_cases e : y = x
    · subst e; simp
    · simp [e]
theorem W.cost {E : List Arc} {M : Nat} (hE : ∀ a ∈ E, a.2.2 ≤ M) {x z c : Nat} {ys : List Nat} (h : W E x ys c z) : c ≤ ys.length * M := by
  induction h with
  | nil x => simp
  | cons h t ih =>
    have := hE _ h
    simp only [List.length_cons, Nat.succ_mul] at *
    omega
/-- Least cost and steps, where there is a walk. -/
noncomputable def bestO (E : List Arc) (z x : Nat) : Option (Nat × Nat) := @dite _ (∃ p : Nat × Nat, Dn E z x p.1 p.2) (Classical.propDecidable _) (fun h => some h.choose) (fun _ => none)
theorem bestO_some {E : List Arc} {z x c h : Nat} (hd : Dn E z x c h) : bestO E z x = some (c, h) := by
  have hex : ∃ p : Nat × Nat, Dn E z x p.1 p.2 := ⟨(c, h), hd⟩
  unfold bestO
  rw [dif_pos hex]
  obtain ⟨e1, e2⟩ := hex.choose_spec.uniq hd
  rw [← e1, ← e2]
theorem bestO_none {E : List Arc} {z x : Nat} (h : ∀ ys c, ¬ W E x ys c z) : bestO E z x = none := by
  unfold bestO
  rw [dif_neg]
  rintro ⟨p, ⟨ys, hw, _⟩, _⟩
  exact h _ _ hw
theorem bestO_spec {E : List Arc} {z x c h : Nat} (e : bestO E z x = some (c, h)) : Dn E z x c h := by
  unfold bestO at e
  split at e
  · rename_i hex
    injection e with e
    have := hex.choose_spec
    rw [e] at this
    exact this
  · cases e
theorem DI.all {E : List Arc} (hE : ∀ a ∈ E, 1 ≤ a.2.2) {z n : Nat} (hn : ∀ a ∈ E, a.2.1 < n) {B : Nat → Option (Nat × Nat)} {q : Nat → Option Nat} (h : DI E z n B q (fun _ => False)) (hq : ∀ x, q x = none) : B = bestO E z := by
  funext x
  cases hb : B x with
  | some p => exact (bestO_some (h.a x p.1 p.2 hb)).symm
  | none => exact (bestO_none fun ys c => h.done hE hn hq hb).symm
end Go.Wk
