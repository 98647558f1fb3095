/- The least walk: by cost, number of steps, order of the nodes. -/
import Derived.Test.YtpmmnnaaoideeaaCW1
import Derived.Test.YtpmmnnaaoideeaaTC26
set_option linter.unusedSimpArgs false
set_option linter.unusedVariables false
namespace Go.Wk

/-- One list of nodes stands before another one of the same length. -/
def lexlt : List Nat → List Nat → Prop
  | a :: l, b :: m => a < b ∨ a = b ∧ lexlt l m
  | [], _ :: _ => True
  | _, [] => False
theorem lexlt_trans : ∀ {a b c : List Nat}, lexlt a b → lexlt b c → lexlt a c := by
  intro a
  induction a with
  | nil => intro b c h k; cases b <;> cases c <;> simp_all [lexlt]
  | cons x a ih =>
    intro b c h k
    cases b with
    | nil => simp [lexlt] at h
    | cons y b =>
      cases c with
      | nil => simp [lexlt] at k
      | cons z c =>
        simp only [lexlt] at *
        rcases h with h | ⟨rfl, h⟩ <;> rcases k with k | ⟨rfl, k⟩
        · exact .inl (by omega)
        · exact .inl h
        · exact .inl k
        · exact .inr ⟨rfl, ih h k⟩
theorem lexlt_tri : ∀ (a b : List Nat), lexlt a b ∨ a = b ∨ lexlt b a := by
  intro a
  induction a with
  | nil => intro b; cases b <;> simp [lexlt]
  | cons x a ih =>
    intro b
    cases b with
    | nil => simp [lexlt]
    | cons y b =>
      simp only [lexlt]
      rcases Nat.lt_trichotomy x y with h | h | h
      · exact .inl (.inl h)
      · subst h
        rcases ih b with h | h | h
        · exact .inl (.inr ⟨rfl, h⟩)
        · exact .inr (.inl (by rw [h]))
        · exact .inr (.inr (.inr ⟨rfl, h⟩))
      · exact .inr (.inr (.inl h))
theorem lexlt_snoc : ∀ {a b : List Nat} (x y : Nat), a.length = b.length → (lexlt (a ++ [x]) (b ++ [y]) ↔ lexlt a b ∨ a = b ∧ x < y) := by
  intro a
  induction a with
  | nil => intro b x y h; cases b with
    | nil => simp [lexlt]
    | cons => simp at h
  | cons z a ih =>
    intro b x y h
    cases b with
    | nil => simp at h
    | cons w b =>
      simp at h
      simp only [List.cons_append, lexlt, ih x y h, List.cons.injEq]
      constructor
      · rintro (k | ⟨rfl, k | ⟨rfl, k⟩⟩)
        · exact .inl (.inl k)
        · exact .inl (.inr ⟨rfl, k⟩)
        · exact .inr ⟨⟨rfl, rfl⟩, k⟩
      · rintro ((k | ⟨rfl, k⟩) | ⟨⟨rfl, rfl⟩, k⟩)
        · exact .inl k
        · exact .inr ⟨rfl, .inl k⟩
        · exact .inr ⟨rfl, .inr ⟨rfl, k⟩⟩

/-- The least cost of a walk of so many steps. -/
def Mn (E : List Arc) (z h x c : Nat) : Prop := (∃ ys, W E x ys c z ∧ ys.length = h) ∧ ∀ ys d, W E x ys d z → ys.length = h → c ≤ d
theorem Mn.uniq {E : List Arc} {z h x c d : Nat} (a : Mn E z h x c) (b : Mn E z h x d) : c = d := by
  obtain ⟨⟨ys, h1, h2⟩, h3⟩ := a
  obtain ⟨⟨zs, k1, k2⟩, k3⟩ := b
  have := h3 _ _ k1 k2
  have := k3 _ _ h1 h2
  omega
theorem Mn.exists {E : List Arc} {z h x : Nat} : ∀ {c : Nat} {ys : List Nat}, W E x ys c z → ys.length = h → ∃ d, Mn E z h x d := by
  intro c
  induction c using Nat.strongRecOn with
  | ind c ih =>
    intro ys hw hl
    by_cases hx : ∃ d zs, d < c ∧ W E x zs d z ∧ zs.length = h
    · obtain ⟨d, zs, h1, h2, h3⟩ := hx
      exact ih d h1 h2 h3
    · refine ⟨c, ⟨ys, hw, hl⟩, fun zs d h1 h2 => ?_⟩
      rcases Nat.lt_or_ge d c with h3 | h3
      · exact absurd ⟨d, zs, h3, h1, h2⟩ hx
      · exact h3
theorem Mn.tail {E : List Arc} {z h x y a c : Nat} {ys : List Nat} (hm : Mn E z (h + 1) x c) (h1 : (x, y, a) ∈ E) {d : Nat} (h2 : W E y ys d z) (h3 : ys.length = h) (h4 : c = a + d) : Mn E z h y d := by
  refine ⟨⟨ys, h2, h3⟩, fun zs e k1 k2 => ?_⟩
  have := hm.2 (y :: zs) (a + e) (.cons h1 k1) (by simp [k2])
  omega

/-- The least cost, and with it the least number of steps. -/
def Dn (E : List Arc) (z x c h : Nat) : Prop := (∃ ys, W E x ys c z ∧ ys.length = h) ∧ ∀ ys d, W E x ys d z → c < d ∨ c = d ∧ h ≤ ys.length
theorem Dn.uniq {E : List Arc} {z x c d h k : Nat} (a : Dn E z x c h) (b : Dn E z x d k) : c = d ∧ h = k := by
  obtain ⟨⟨ys, h1, h2⟩, h3⟩ := a
  obtain ⟨⟨zs, k1, k2⟩, k3⟩ := b
  have := h3 _ _ k1
  have := k3 _ _ h1
  omega
theorem Dn.mn {E : List Arc} {z x c h : Nat} (a : Dn E z x c h) : Mn E z h x c := by
  refine ⟨a.1, fun ys d h1 h2 => ?_⟩
  have := a.2 _ _ h1
  omega
theorem Dn.step {E : List Arc} {z x y a c h : Nat} (hx : Dn E z x c (h + 1)) (ha : (x, y, a) ∈ E) (d : Nat) : Mn E z h y d ∧ c = a + d ↔ ∃ e, Dn E z y d e ∧ c = a + d ∧ e = h := by
  constructor
  · rintro ⟨hm, rfl⟩
    refine ⟨h, ⟨hm.1, fun ys b h1 => ?_⟩, rfl, rfl⟩
    have := hx.2 _ _ (W.cons ha h1)
    simp at this
    omega
  · rintro ⟨e, hd, rfl, rfl⟩
    exact ⟨hd.mn, rfl⟩
theorem Dn.hops {E : List Arc} (hE : ∀ a ∈ E, 1 ≤ a.2.2) {n : Nat} (hn : ∀ a ∈ E, a.2.1 < n) {z x c h : Nat} (hx : x < n) (hd : Dn E z x c h) : h + 1 ≤ n := by
  obtain ⟨ys, h1, h2⟩ := hd.1
  rcases W.simple hE (Nat.le_refl _) h1 with h3 | ⟨zs, d, h3, h4⟩
  · have := nodup_length h3 (n := n) (fun y hy => by
      rcases List.mem_cons.1 hy with rfl | hy
      · exact hx
      · obtain ⟨u, a, k⟩ := h1.mem hy
        exact hn _ k)
    simp at this
    omega
  · have := hd.2 _ _ h3
    omega

/-- The least walk among those of at most so many steps. -/
structure Best (E : List Arc) (nd : Nat → Nat) (lim : Nat → Prop) (x z : Nat) (ys : List Nat) (c : Nat) : Prop where
  w : W E x ys c z
  l : lim ys.length
  le : ∀ zs d, W E x zs d z → lim zs.length → c < d ∨ c = d ∧ (ys.length < zs.length ∨ ys.length = zs.length ∧ ¬ lexlt (zs.map nd) (ys.map nd))
theorem Best.uniq {E : List Arc} {nd : Nat → Nat} {lim : Nat → Prop} {x z : Nat} {ys zs : List Nat} {c d : Nat} (a : Best E nd lim x z ys c) (b : Best E nd lim x z zs d) : ys.map nd = zs.map nd ∧ c = d := by
  have h1 := a.le _ _ b.w b.l
  have h2 := b.le _ _ a.w a.l
  have h3 := lexlt_tri (ys.map nd) (zs.map nd)
  refine ⟨?_, by omega⟩
  rcases h3 with h3 | h3 | h3
  · rcases h2 with h2 | ⟨_, h2 | h2⟩
    · omega
    · omega
    · exact absurd h3 h2.2
  · exact h3
  · rcases h1 with h1 | ⟨_, h1 | h1⟩
    · omega
    · omega
    · exact absurd h3 h1.2

/-- Step by step to the least next node among those from which the rest of the cost leads on. -/
inductive Fol (E : List Arc) (nd : Nat → Nat) (z : Nat) : Nat → Nat → Nat → List Nat → Prop
  | nil (x : Nat) : Fol E nd z 0 x 0 []
  | cons {h x y a c : Nat} {ys : List Nat} (he : (x, y, a) ∈ E) (hm : Mn E z h y c) (hl : ∀ y' a' c', (x, y', a') ∈ E → Mn E z h y' c' → a + c = a' + c' → nd y ≤ nd y') (t : Fol E nd z h y c ys) : Fol E nd z (h + 1) x (a + c) (y :: ys)
theorem Fol.best {E : List Arc} {nd : Nat → Nat} {z : Nat} (hinj : ∀ x y y' a a', (x, y, a) ∈ E → (x, y', a') ∈ E → nd y = nd y' → y = y' ∧ a = a') {h x c : Nat} {ys : List Nat} (hf : Fol E nd z h x c ys) (hm : Mn E z h x c) :
    W E x ys c z ∧ ys.length = h ∧ ∀ zs, W E x zs c z → zs.length = h → ¬ lexlt (zs.map nd) (ys.map nd) := by
  induction hf with
  | nil x =>
    obtain ⟨⟨ys, h1, h2⟩, _⟩ := hm
    have : ys = [] := List.length_eq_zero_iff.1 h2
    subst this
    refine ⟨h1, rfl, fun zs _ hz => ?_⟩
    have : zs = [] := List.length_eq_zero_iff.1 hz
    subst this
    simp [lexlt]
  | @cons h x y a c ys he hmy hl t ih =>
    obtain ⟨k1, k2, k3⟩ := ih hmy
    refine ⟨.cons he k1, by simp [k2], fun zs hw hz => ?_⟩
    cases zs with
    | nil => simp at hz
    | cons y' zs =>
      obtain ⟨a', d', h1, h2, h3⟩ := hw.cons_inv
      simp at hz
      have hm' := hm.tail h1 h2 hz h3
      have hle := hl _ _ _ h1 hm' h3
      simp only [List.map_cons, lexlt]
      rintro (h4 | ⟨h4, h5⟩)
      · omega
      · obtain ⟨rfl, rfl⟩ := hinj _ _ _ _ _ h1 he h4
        have : c = d' := by omega
        subst this
        exact k3 _ h2 hz h5
end Go.Wk

/- The search from the goal: what is settled is right, whatever is taken next. -/
namespace Go.Wk

def fset {α : Type} (f : Nat → Option α) (x : Nat) (v : Option α) : Nat → Option α := fun y => if y = x then v else f y
@[simp] theorem fset_same {α : Type} {f : Nat → Option α} {x : Nat} {v : Option α} : fset f x v x = v := by simp [fset]
theorem fset_ne {α : Type} {f : Nat → Option α} {x y : Nat} {v : Option α} (h : y ≠ x) : fset f x v y = f y := by simp [fset, h]

structure DI (E : List Arc) (z n : Nat) (B : Nat → Option (Nat × Nat)) (q : Nat → Option Nat) (pend : Arc → Prop) : Prop where
  a : ∀ x c h, B x = some (c, h) → Dn E z x c h
  b : ∀ x k, q x = some k → B x = none ∧ x < n ∧ ∃ c h ys, k = c * 65536 + h ∧ W E x ys c z ∧ ys.length = h ∧ h ≤ n
  c0 : B z = none → q z = some 0
  c : ∀ x y a c h, (x, y, a) ∈ E → ¬ pend (x, y, a) → B x = none → B y = some (c, h) → ∃ k, q x = some k ∧ k ≤ (c + a) * 65536 + (h + 1)

theorem DI.start {E : List Arc} {z n : Nat} (hz : z < n) : DI E z n (fun _ => none) (fset (fun _ => none) z (some 0)) (fun _ => False) := by
  refine ⟨fun x c h e => by simp at e, fun x k e => ?_, fun _ => fset_same, fun x y a c h _ _ _ e => by simp at e⟩
  by_cases hx : x = z
  · subst hx
    simp at e
    subst e
    exact ⟨rfl, hz, 0, 0, [], rfl, .nil _, rfl, by omega⟩
  · rw [fset_ne hx] at e
    cases e
/-- From a state that is not settled every walk passes the queue. -/
theorem DI.pass {E : List Arc} (hE : ∀ a ∈ E, 1 ≤ a.2.2) {z n : Nat} (hn : ∀ a ∈ E, a.2.1 < n) {B : Nat → Option (Nat × Nat)} {q : Nat → Option Nat} (h : DI E z n B q (fun _ => False)) {x c : Nat} {ys : List Nat} (hw : W E x ys c z) (hx : B x = none) :
    ∃ y k d j, q y = some k ∧ k ≤ d * 65536 + j ∧ j ≤ n ∧ (d < c ∨ d = c ∧ j ≤ ys.length) := by
  induction hw with
  | nil x => exact ⟨x, 0, 0, 0, h.c0 hx, by omega, by omega, .inr ⟨rfl, Nat.le_refl _⟩⟩
  | @cons x y z a d ys he t ih =>
    cases hy : B y with
    | none =>
      obtain ⟨u, k, e, j, h1, h2, h4, h3⟩ := ih h hy
      refine ⟨u, k, e, j, h1, h2, h4, ?_⟩
      simp
      omega
    | some p =>
      obtain ⟨c, j⟩ := p
      obtain ⟨k, h1, h2⟩ := h.c x y a c j he (fun h => h) hx hy
      have hd := h.a _ _ _ hy
      have := hd.2 _ _ t
      have := hd.hops hE hn (hn _ he)
      refine ⟨x, k, c + a, j + 1, h1, h2, by omega, ?_⟩
      simp
      omega
theorem DI.pop {E : List Arc} (hE : ∀ a ∈ E, 1 ≤ a.2.2) {z n : Nat} (hn : ∀ a ∈ E, a.2.1 < n) (hn2 : n < 65536) {B : Nat → Option (Nat × Nat)} {q : Nat → Option Nat} (h : DI E z n B q (fun _ => False)) {x k : Nat} (hx : q x = some k)
    (hm : ∀ y k', q y = some k' → k ≤ k') : DI E z n (fset B x (some (k / 65536, k % 65536))) (fset q x none) (fun a => a.2.1 = x) := by
  obtain ⟨hb, hxn, c, j, ys, hk, hw, hl, hj⟩ := h.b x k hx
  have e1 : k / 65536 = c := by omega
  have e2 : k % 65536 = j := by omega
  rw [e1, e2]
  have hd : Dn E z x c j := by
    refine ⟨⟨ys, hw, hl⟩, fun zs d hz => ?_⟩
    obtain ⟨y, k', d', j', h1, h2, h4, h3⟩ := h.pass hE hn hz hb
    have := hm _ _ h1
    omega
  refine ⟨fun y c' h' e => ?_, fun y k' e => ?_, fun e => ?_, fun u y a c' h' he hp e1 e2 => ?_⟩
  · by_cases hy : y = x
    · subst hy
      simp at e
      obtain ⟨rfl, rfl⟩ := e
      exact hd
    · rw [fset_ne hy] at e
      exact h.a _ _ _ e
  · by_cases hy : y = x
    · subst hy
      simp at e
    · rw [fset_ne hy] at e
      rw [fset_ne hy]
      exact h.b _ _ e
  · by_cases hy : z = x
    · subst hy
      simp at e
    · rw [fset_ne hy] at e ⊢
      exact h.c0 e
  · have hu : u ≠ x := by
      rintro rfl
      simp at e1
    have hy : y ≠ x := hp
    rw [fset_ne hu] at e1 ⊢
    rw [fset_ne hy] at e2
    exact h.c _ _ _ _ _ he (fun h => h) e1 e2
/-- One arc into the state just settled. -/
def relax (B : Nat → Option (Nat × Nat)) (q : Nat → Option Nat) (x v : Nat) : Nat → Option Nat :=
  if B x = none ∧ (q x = none ∨ ∃ k, q x = some k ∧ v < k) then fset q x (some v) else q
theorem DI.relax {E : List Arc} (hE : ∀ a ∈ E, 1 ≤ a.2.2) {z n : Nat} (hn : ∀ a ∈ E, a.2.1 < n) (hn1 : ∀ a ∈ E, a.1 < n) {B : Nat → Option (Nat × Nat)} {q : Nat → Option Nat} {pend : Arc → Prop} (h : DI E z n B q pend) {x y a c j : Nat} (he : (x, y, a) ∈ E) (hy : B y = some (c, j)) :
    DI E z n B (relax B q x ((c + a) * 65536 + (j + 1))) (fun b => pend b ∧ b ≠ (x, y, a)) := by
  have hd := h.a _ _ _ hy
  obtain ⟨ys, hw, hl⟩ := hd.1
  have hj := hd.hops hE hn (hn _ he)
  unfold Wk.relax
  split
  · rename_i hc
    obtain ⟨hb, hq⟩ := hc
    refine ⟨h.a, fun u k e => ?_, fun e => ?_, fun u w b c' h' he' hp e1 e2 => ?_⟩
    · by_cases hu : u = x
      · subst hu
        simp at e
        subst e
        exact ⟨hb, hn1 _ he, c + a, j + 1, y :: ys, rfl, by rw [Nat.add_comm]; exact .cons he hw, by simp [hl], by omega⟩
      · rw [fset_ne hu] at e
        exact h.b _ _ e
    · by_cases hu : z = x
      · subst hu
        exfalso
        rw [h.c0 e] at hq
        rcases hq with hq | ⟨k, hq, hk⟩
        · cases hq
        · injection hq with hq
          omega
      · rw [fset_ne hu]
        exact h.c0 e
    · by_cases hu : u = x
      · subst hu
        refine ⟨_, fset_same, ?_⟩
        by_cases hp' : pend (u, w, b)
        · have : (u, w, b) = (u, y, a) := by
            by_cases hh : (u, w, b) = (u, y, a)
            · exact hh
            · exact absurd ⟨hp', hh⟩ hp
          simp only [Prod.mk.injEq, true_and] at this
          obtain ⟨rfl, rfl⟩ := this
          rw [hy] at e2
          injection e2 with e2
          injection e2 with e2 e3
          subst e2 e3
          exact Nat.le_refl _
        · obtain ⟨k, h1, h2⟩ := h.c _ _ _ _ _ he' hp' e1 e2
          rcases hq with hq | ⟨k', hq, hk⟩
          · rw [hq] at h1
            cases h1
          · rw [hq] at h1
            injection h1 with h1
            omega
      · rw [fset_ne hu]
        refine h.c _ _ _ _ _ he' (fun hp' => hp ⟨hp', fun hh => hu ?_⟩) e1 e2
        injection hh
  · rename_i hc
    refine ⟨h.a, h.b, h.c0, fun u w b c' h' he' hp e1 e2 => ?_⟩
    by_cases hp' : pend (u, w, b)
    · have : (u, w, b) = (x, y, a) := by
        by_cases hh : (u, w, b) = (x, y, a)
        · exact hh
        · exact absurd ⟨hp', hh⟩ hp
      simp only [Prod.mk.injEq] at this
      obtain ⟨rfl, rfl, rfl⟩ := this
      rw [hy] at e2
      injection e2 with e2
      injection e2 with e2 e3
      subst e2 e3
      cases hq : q u with
      | none => exact absurd ⟨e1, .inl hq⟩ hc
      | some k =>
        refine ⟨k, rfl, ?_⟩
        rcases Nat.lt_or_ge ((c + b) * 65536 + (j + 1)) k with h1 | h1
        · exact absurd ⟨e1, .inr ⟨k, hq, h1⟩⟩ hc
        · exact h1
    · exact h.c _ _ _ _ _ he' hp' e1 e2
theorem DI.less {E : List Arc} {z n : Nat} {B : Nat → Option (Nat × Nat)} {q : Nat → Option Nat} {pend pend' : Arc → Prop} (h : DI E z n B q pend) (hp : ∀ a ∈ E, pend a → pend' a) : DI E z n B q pend' :=
  ⟨h.a, h.b, h.c0, fun x y a c j he hn => h.c x y a c j he (fun hh => hn (hp _ he hh))⟩
/-- At the end what is not settled has no walk. -/
theorem DI.done {E : List Arc} (hE : ∀ a ∈ E, 1 ≤ a.2.2) {z n : Nat} (hn : ∀ a ∈ E, a.2.1 < n) {B : Nat → Option (Nat × Nat)} {q : Nat → Option Nat} (h : DI E z n B q (fun _ => False)) (hq : ∀ x, q x = none) {x : Nat} (hx : B x = none) {ys : List Nat} {c : Nat} : ¬ W E x ys c z := by
  intro hw
  obtain ⟨y, k, _, _, h1, _⟩ := h.pass hE hn hw hx
  rw [hq y] at h1
  cases h1
end Go.Wk

/- The search: from each state to the goal. -/
namespace Go.Proofs.Ytpmmnnaaoideeaa
open Go Go.Am Go.Wk

def ceP (p : Int × Int) : List AVal := [.int .i64 p.1, .int .i64 p.2]
theorem ePe : Enc ceP 2 := ⟨by decide, fun _ => rfl, fun _ => rfl, fun _ => rfl⟩
theorem rowP_0 {l : List (Int × Int)} {i : Nat} {p : Int × Int} (h : l[i]? = some p) : (rowC ceP l)[i * 2]? = some (.int .i64 p.1) := by
  have := (ePe.rowAt h []).1
  rw [List.append_nil] at this
  have h2 : (((rowC ceP l).drop (i * 2)).take 2)[0]? = some (.int .i64 p.1) := by rw [this]; rfl
  simpa using h2
theorem rowP_1 {l : List (Int × Int)} {i : Nat} {p : Int × Int} (h : l[i]? = some p) : (rowC ceP l)[i * 2 + 1]? = some (.int .i64 p.2) := by
  have := (ePe.rowAt h []).1
  rw [List.append_nil] at this
  have h2 : (((rowC ceP l).drop (i * 2)).take 2)[1]? = some (.int .i64 p.2) := by rw [this]; rfl
  simpa using h2
/-- The first Set among other variables. -/
theorem setFirst {N : Nat} {ks : List Int} (hk : ks.length = N) (x : Nat) (hxN : x < N) (v : Int) {H : List (List AVal)} {a q r : Nat} (d1 : a ≠ q) (d2 : a ≠ r) (d3 : q ≠ r)
    (ha : H[a]? = some [.sl 0 [] .full, .osl q 0 N (some N) 1, .osl r 0 N (some N) 1]) (hq : H[q]? = some (rowZ (plOf N []))) (hr : H[r]? = some (rowZ ks)) :
    CFun Try.prog 96 [.ptr a 0, .int .i64 x, .int .i64 v] H (.bool true) ((((H.set a [.osl H.length 0 1 none 1, .osl q 0 N (some N) 1, .osl r 0 N (some N) 1]).set q (rowZ (plOf N [x]))).set r (rowZ (ks.set x v))) ++ [rowN [x]]) := by
  have la := (List.getElem?_eq_some_iff.1 ha).1
  have lq := (List.getElem?_eq_some_iff.1 hq).1
  have lr := (List.getElem?_eq_some_iff.1 hr).1
  have h := c65n N ks hk x hxN v
  have h3 : ∀ i, i < 3 → i = 0 ∨ i = 1 ∨ i = 2 := by omega
  have h4 : ∀ i, i < 4 → i = 0 ∨ i = 1 ∨ i = 2 ∨ i = 3 := by omega
  have := h.lift (fun i => if i = 0 then q else if i = 1 then r else a) (H := H) (H' := ((((H.set a [.osl H.length 0 1 none 1, .osl q 0 N (some N) 1, .osl r 0 N (some N) 1]).set q (rowZ (plOf N [x]))).set r (rowZ (ks.set x v))) ++ [rowN [x]]))
    (fun i hi => by rcases h3 i hi with rfl | rfl | rfl <;> simp only [Nat.succ_ne_zero, if_true, if_false] <;> first | exact lq | exact lr | exact la)
    (fun i j hi hj e => by
      rcases h3 i hi with rfl | rfl | rfl <;> rcases h3 j hj with rfl | rfl | rfl <;> simp at e <;> first | rfl | (exact absurd e (by assumption)) | (exact absurd e.symm (by assumption)))
    (fun i cs hi => by
      have hi4 : i < 3 := (List.getElem?_eq_some_iff.1 hi).1
      rcases h3 i hi4 with rfl | rfl | rfl <;> simp only [List.getElem?_cons_zero, List.getElem?_cons_succ, Option.some.injEq] at hi <;> subst hi
      · rw [ren_rowZ]; exact ⟨hq, low_rowZ _ _⟩
      · rw [ren_rowZ]; exact ⟨hr, low_rowZ _ _⟩
      · exact ⟨ha, rfl⟩)
    rfl (by simp)
    (fun i cs hi => by
      have hi4 : i < 4 := (List.getElem?_eq_some_iff.1 hi).1
      rcases h4 i hi4 with rfl | rfl | rfl | rfl <;> simp only [List.getElem?_cons_zero, List.getElem?_cons_succ, Option.some.injEq] at hi <;> subst hi
      · rw [ren_rowZ]
        refine ⟨?_, low_rowZ _ _⟩
        show (_ ++ _)[q]? = _
        rw [List.getElem?_append_left (by simpa using lq), List.getElem?_set_ne d3.symm, List.getElem?_set_self (by simpa using lq)]
      · rw [ren_rowZ]
        refine ⟨?_, low_rowZ _ _⟩
        show (_ ++ _)[r]? = _
        rw [List.getElem?_append_left (by simpa using lr), List.getElem?_set_self (by simpa using lr)]
      · refine ⟨?_, rfl⟩
        show (_ ++ _)[a]? = _
        rw [List.getElem?_append_left (by simpa using la), List.getElem?_set_ne d2.symm, List.getElem?_set_ne d1.symm, List.getElem?_set_self la]
        simp [ren0, grow]
      · rw [ren_rowN]
        refine ⟨?_, low_rowN _ _⟩
        have e : grow (fun i => if i = 0 then q else if i = 1 then r else a) [rowZ (plOf N []), rowZ ks, [AVal.sl 0 [] Mode.full, AVal.osl 0 0 N (some N) 1, AVal.osl 1 0 N (some N) 1]].length H.length 3 = H.length := by simp [grow]
        rw [e, List.getElem?_append_right (by simp)]
        simp)
    (fun k hk hne => by
      have e0 : q ≠ k := hne 0 (by simp)
      have e1 : r ≠ k := hne 1 (by simp)
      have e2 : a ≠ k := hne 2 (by simp)
      rw [List.getElem?_append_left (by simpa using hk), List.getElem?_set_ne e1, List.getElem?_set_ne e0, List.getElem?_set_ne e2])
    rfl
  exact this
/-- Set of a number that is not there, among other variables. -/
theorem setNew {N n : Nat} {its jk : List Nat} {ks : List Int} (hk : ks.length = N) (hn : n + 1 < 1000000) (hl : its.length = n) (hd : its.Nodup) (hN : ∀ x ∈ its, x < N) (hne : its ++ jk ≠ []) (x : Nat) (hx : x ∉ its) (hxN : x < N) (v : Int)
    {H : List (List AVal)} {a p q r : Nat}
    (d1 : a ≠ p) (d2 : a ≠ q) (d3 : a ≠ r) (d4 : p ≠ q) (d5 : p ≠ r) (d6 : q ≠ r) (ha : H[a]? = some [.osl p 0 n none 1, .osl q 0 N (some N) 1, .osl r 0 N (some N) 1]) (hp : H[p]? = some (rowN (its ++ jk))) (hq : H[q]? = some (rowZ (plOf N its))) (hr : H[r]? = some (rowZ ks)) :
    CFun Try.prog 96 [.ptr a 0, .int .i64 x, .int .i64 v] H (.bool true)
      (((((H.set a [.osl H.length 0 (n + 1) none 1, .osl q 0 N (some N) 1, .osl r 0 N (some N) 1]).set p []).set q (rowZ (plOf N (settleH (ks.set x v) (its ++ [x]) n)))).set r (rowZ (ks.set x v))) ++ [rowN (settleH (ks.set x v) (its ++ [x]) n)]) := by
  have la := (List.getElem?_eq_some_iff.1 ha).1
  have lp := (List.getElem?_eq_some_iff.1 hp).1
  have lq := (List.getElem?_eq_some_iff.1 hq).1
  have lr := (List.getElem?_eq_some_iff.1 hr).1
  have h := c65b N jk ks hk n hn its hl hd hN hne x hx hxN v
  simp only [hH, hB, hl] at h
  have h4 : ∀ i, i < 4 → i = 0 ∨ i = 1 ∨ i = 2 ∨ i = 3 := by omega
  have h5 : ∀ i, i < 5 → i = 0 ∨ i = 1 ∨ i = 2 ∨ i = 3 ∨ i = 4 := by omega
  have := h.lift (four a p q r) (H := H) (H' := (((((H.set a [.osl H.length 0 (n + 1) none 1, .osl q 0 N (some N) 1, .osl r 0 N (some N) 1]).set p []).set q (rowZ (plOf N (settleH (ks.set x v) (its ++ [x]) n)))).set r (rowZ (ks.set x v))) ++ [rowN (settleH (ks.set x v) (its ++ [x]) n)]))
    (fun i hi => by rcases h4 i hi with rfl | rfl | rfl | rfl <;> simp only [four] <;> assumption)
    (fun i j hi hj e => by
      rcases h4 i hi with rfl | rfl | rfl | rfl <;> rcases h4 j hj with rfl | rfl | rfl | rfl <;> simp only [four] at e <;> first | rfl | (exact absurd e (by assumption)) | (exact absurd e.symm (by assumption)))
    (fun i cs hi => by
      have hi4 : i < 4 := (List.getElem?_eq_some_iff.1 hi).1
      rcases h4 i hi4 with rfl | rfl | rfl | rfl <;> simp only [List.getElem?_cons_zero, List.getElem?_cons_succ, Option.some.injEq] at hi <;> subst hi <;> simp only [four]
      · exact ⟨ha, rfl⟩
      · rw [ren_rowN]; exact ⟨hp, low_rowN _ _⟩
      · rw [ren_rowZ]; exact ⟨hq, low_rowZ _ _⟩
      · rw [ren_rowZ]; exact ⟨hr, low_rowZ _ _⟩)
    rfl (by simp)
    (fun i cs hi => by
      have hi4 : i < 5 := (List.getElem?_eq_some_iff.1 hi).1
      rcases h5 i hi4 with rfl | rfl | rfl | rfl | rfl <;> simp only [List.getElem?_cons_zero, List.getElem?_cons_succ, Option.some.injEq] at hi <;> subst hi
      · refine ⟨?_, rfl⟩
        show (_ ++ _)[a]? = _
        rw [List.getElem?_append_left (by simpa using la), List.getElem?_set_ne d3.symm, List.getElem?_set_ne d2.symm, List.getElem?_set_ne d1.symm, List.getElem?_set_self la]
        simp [ren0, grow, four]
      · refine ⟨?_, rfl⟩
        show (_ ++ _)[p]? = _
        rw [List.getElem?_append_left (by simpa using lp), List.getElem?_set_ne d5.symm, List.getElem?_set_ne d4.symm, List.getElem?_set_self (by simpa using lp)]
        rfl
      · rw [ren_rowZ]
        refine ⟨?_, low_rowZ _ _⟩
        show (_ ++ _)[q]? = _
        rw [List.getElem?_append_left (by simpa using lq), List.getElem?_set_ne d6.symm, List.getElem?_set_self (by simpa using lq)]
      · rw [ren_rowZ]
        refine ⟨?_, low_rowZ _ _⟩
        show (_ ++ _)[r]? = _
        rw [List.getElem?_append_left (by simpa using lr), List.getElem?_set_self (by simpa using lr)]
      · rw [ren_rowN]
        refine ⟨?_, low_rowN _ _⟩
        have e : grow (four a p q r) [[AVal.osl 1 0 n none 1, AVal.osl 2 0 N (some N) 1, AVal.osl 3 0 N (some N) 1], rowN (its ++ jk), rowZ (plOf N its), rowZ ks].length H.length 4 = H.length := by simp [grow]
        rw [e, List.getElem?_append_right (by simp)]
        simp)
    (fun k hk hne => by
      have e0 := hne 0 (by simp)
      have e1 := hne 1 (by simp)
      have e2 := hne 2 (by simp)
      have e3 := hne 3 (by simp)
      simp only [four] at e0 e1 e2 e3
      rw [List.getElem?_append_left (by simpa using hk), List.getElem?_set_ne e3, List.getElem?_set_ne e2, List.getElem?_set_ne e1, List.getElem?_set_ne e0])
    rfl
  exact this
end Go.Proofs.Ytpmmnnaaoideeaa

/- The heap as a map from numbers to keys. No program. -/
namespace Go.Wk
open Go.Proofs.Ytpmmnnaaoideeaa (popL settle_perm)

structure HI (sz : Nat) (its : List Nat) (ks : List Int) : Prop where
  nd : its.Nodup
  lt : ∀ x ∈ its, x < sz
  len : ks.length = sz
  ok : HeapOk ks its
  pos : ∀ x ∈ its, 0 ≤ ks.getD x 0
def qOf (its : List Nat) (ks : List Int) (x : Nat) : Option Nat := if x ∈ its then some (ks.getD x 0).toNat else none
theorem getD_set {ks : List Int} {x y : Nat} {v : Int} (hx : x < ks.length) : (ks.set x v).getD y 0 = if y = x then v else ks.getD y 0 := by
  simp only [List.getD_eq_getElem?_getD, List.getElem?_set]
  by_cases e : y = x
  · subst e; simp [hx]
  · rw [if_neg (Ne.symm e), if_neg e]
theorem HI.set {sz : Nat} {its its' : List Nat} {ks : List Int} (h : HI sz its ks) {x v : Nat} (hx : x < sz) (hp : ∀ y, y ∈ its' ↔ y = x ∨ y ∈ its) (hn : its'.Nodup) (hok : HeapOk (ks.set x v) its') :
    HI sz its' (ks.set x v) ∧ qOf its' (ks.set x v) = fset (qOf its ks) x (some v) := by
  have hxl : x < ks.length := by rw [h.len]; exact hx
  refine ⟨⟨hn, fun y hy => ?_, by simp [h.len], hok, fun y hy => ?_⟩, ?_⟩
  · rcases (hp y).1 hy with rfl | hy
    · exact hx
    · exact h.lt y hy
  · rw [getD_set hxl]
    split
    · omega
    · rename_i e
      exact h.pos y (((hp y).1 hy).resolve_left e)
  · funext y
    unfold qOf fset
    rw [getD_set hxl]
    by_cases e : y = x
    · subst e
      rw [if_pos ((hp y).2 (.inl rfl)), if_pos rfl, if_pos rfl]
      simp
    · rw [if_neg e, if_neg e]
      by_cases hy : y ∈ its
      · simp only [if_pos hy, if_pos ((hp y).2 (.inr hy))]
      · simp only [if_neg hy, if_neg (fun hh => ((hp y).1 hh).elim e hy)]
theorem HI.old {sz : Nat} {its : List Nat} {ks : List Int} (h : HI sz its ks) {x v : Nat} (hx : x ∈ its) :
    HI sz (settleH (ks.set x v) its (its.idxOf x)) (ks.set x v) ∧ qOf (settleH (ks.set x v) its (its.idxOf x)) (ks.set x v) = fset (qOf its ks) x (some v) := by
  have hp := settle_perm (ks := ks.set x v) (get_idx hx).2
  refine h.set (h.lt x hx) (fun y => ?_) (hp.nodup_iff.2 h.nd) (set_old h.nd h.ok hx v)
  rw [hp.mem_iff]
  constructor
  · exact .inr
  · rintro (rfl | hy)
    · exact hx
    · exact hy
theorem HI.new {sz : Nat} {its : List Nat} {ks : List Int} (h : HI sz its ks) {x v : Nat} (hx : x ∉ its) (hxs : x < sz) :
    HI sz (settleH (ks.set x v) (its ++ [x]) its.length) (ks.set x v) ∧ qOf (settleH (ks.set x v) (its ++ [x]) its.length) (ks.set x v) = fset (qOf its ks) x (some v) := by
  have hp := settle_perm (ks := ks.set x v) (l := its ++ [x]) (i := its.length) (by simp)
  have hd : (its ++ [x]).Nodup := by rw [List.nodup_append]; exact ⟨h.nd, by simp, fun a ha b hb e => by simp at hb; subst hb e; exact hx ha⟩
  refine h.set hxs (fun y => ?_) (hp.nodup_iff.2 hd) (set_new h.ok hx v)
  rw [hp.mem_iff]
  simp only [List.mem_append, List.mem_singleton]
  exact Or.comm
theorem HI.pop {sz : Nat} {its : List Nat} {ks : List Int} (h : HI sz its ks) {n : Nat} (hl : its.length = n + 1) {x : Nat} (hx : its.getD 0 0 = x) :
    HI sz (popL ks its) ks ∧ qOf (popL ks its) ks = fset (qOf its ks) x none ∧ qOf its ks x = some (ks.getD x 0).toNat ∧ x < sz ∧ 0 ≤ ks.getD x 0 ∧ ∀ y k', qOf its ks y = some k' → (ks.getD x 0).toNat ≤ k' := by
  have hxm : x ∈ its := hx ▸ get_mem (by omega)
  have h3 : (sw its 0 n)[n]? = some x := by
    have h0 : n < (sw its 0 n).length := by rw [sw_len]; omega
    have h1 : (sw its 0 n).getD n 0 = x := by rw [sw_get (by omega) (by omega), if_pos rfl]; exact hx
    rw [← h1]
    simp [List.getD_eq_getElem?_getD, h0]
  have hs := List.take_add_one (l := sw its 0 n) (i := n)
  rw [h3, List.take_of_length_le (by rw [sw_len]; omega)] at hs
  have hp := sw_perm its (i := 0) (j := n) (by omega) (by omega)
  have hl2 : ((sw its 0 n).take n).length = n := by simp [sw_len]; omega
  have hpop := pop_ok hl h.ok
  have hpe : popL ks its = if 0 < n then settleH ks ((sw its 0 n).take n) 0 else (sw its 0 n).take n := by unfold popL; rw [hl, Nat.add_sub_cancel]
  have hpp : (popL ks its).Perm ((sw its 0 n).take n) := by
    rw [hpe]
    split
    · exact settle_perm (by omega)
    · exact .refl _
  generalize (sw its 0 n).take n = its2 at *
  rw [hs] at hp
  have hp : (its2 ++ [x]).Perm its := by simpa using hp
  have hnd := hp.nodup_iff.2 h.nd
  have hx2 : x ∉ its2 := fun hh => ((List.nodup_append.1 hnd).2.2 x hh x (by simp)) rfl
  have hm : ∀ y, y ∈ popL ks its ↔ y ∈ its ∧ y ≠ x := by
    intro y
    rw [hpp.mem_iff, ← hp.mem_iff]
    simp only [List.mem_append, List.mem_singleton]
    constructor
    · intro hy; exact ⟨.inl hy, fun e => hx2 (e ▸ hy)⟩
    · rintro ⟨hy | hy, hne⟩
      · exact hy
      · exact absurd hy hne
  refine ⟨⟨hpp.nodup_iff.2 (List.nodup_append.1 hnd).1, fun y hy => h.lt y ((hm y).1 hy).1, h.len, by rw [hpe]; exact hpop, fun y hy => h.pos y ((hm y).1 hy).1⟩, ?_, ?_, h.lt x hxm, h.pos x hxm, fun y k' hk => ?_⟩
  · funext y
    unfold qOf fset
    by_cases e : y = x
    · subst e
      rw [if_neg (fun hh => ((hm y).1 hh).2 rfl), if_pos rfl]
    · rw [if_neg e]
      by_cases hy : y ∈ its
      · simp only [if_pos hy, if_pos ((hm y).2 ⟨hy, e⟩)]
      · simp only [if_neg hy, if_neg (fun hh => hy ((hm y).1 hh).1)]
  · unfold qOf
    rw [if_pos hxm]
  · unfold qOf at hk
    split at hk
    · rename_i hy
      injection hk with hk
      subst hk
      have := heap_min h.ok hy
      rw [hx] at this
      omega
    · cases hk
theorem HI.first {sz x : Nat} (hx : x < sz) {ks : List Int} (hk : ks.length = sz) (v : Nat) : HI sz [x] (ks.set x v) ∧ qOf [x] (ks.set x v) = fset (fun _ => none) x (some v) := by
  refine ⟨⟨by simp, by simp; exact hx, by simp [hk], fun j a b => by simp at b; omega, fun y hy => ?_⟩, ?_⟩
  · simp at hy; subst hy
    rw [getD_set (by omega), if_pos rfl]
    omega
  · funext y
    unfold qOf fset
    rw [getD_set (by omega)]
    by_cases e : y = x
    · subst e; simp
    · simp [e]
theorem W.cost {E : List Arc} {M : Nat} (hE : ∀ a ∈ E, a.2.2 ≤ M) {x z c : Nat} {ys : List Nat} (h : W E x ys c z) : c ≤ ys.length * M := by
  induction h with
  | nil x => simp
  | cons h t ih =>
    have := hE _ h
    simp only [List.length_cons, Nat.succ_mul] at *
    omega
/-- Least cost and steps, where there is a walk. -/
noncomputable def bestO (E : List Arc) (z x : Nat) : Option (Nat × Nat) := @dite _ (∃ p : Nat × Nat, Dn E z x p.1 p.2) (Classical.propDecidable _) (fun h => some h.choose) (fun _ => none)
theorem bestO_some {E : List Arc} {z x c h : Nat} (hd : Dn E z x c h) : bestO E z x = some (c, h) := by
  have hex : ∃ p : Nat × Nat, Dn E z x p.1 p.2 := ⟨(c, h), hd⟩
  unfold bestO
  rw [dif_pos hex]
  obtain ⟨e1, e2⟩ := hex.choose_spec.uniq hd
  rw [← e1, ← e2]
theorem bestO_none {E : List Arc} {z x : Nat} (h : ∀ ys c, ¬ W E x ys c z) : bestO E z x = none := by
  unfold bestO
  rw [dif_neg]
  rintro ⟨p, ⟨ys, hw, _⟩, _⟩
  exact h _ _ hw
theorem bestO_spec {E : List Arc} {z x c h : Nat} (e : bestO E z x = some (c, h)) : Dn E z x c h := by
  unfold bestO at e
  split at e
  · rename_i hex
    injection e with e
    have := hex.choose_spec
    rw [e] at this
    exact this
  · cases e
theorem DI.all {E : List Arc} (hE : ∀ a ∈ E, 1 ≤ a.2.2) {z n : Nat} (hn : ∀ a ∈ E, a.2.1 < n) {B : Nat → Option (Nat × Nat)} {q : Nat → Option Nat} (h : DI E z n B q (fun _ => False)) (hq : ∀ x, q x = none) : B = bestO E z := by
  funext x
  cases hb : B x with
  | some p => exact (bestO_some (h.a x p.1 p.2 hb)).symm
  | none => exact (bestO_none fun ys c => h.done hE hn hq hb).symm
end Go.Wk

/- The search: from each state to the goal, by the program. -/
namespace Go.Proofs.Ytpmmnnaaoideeaa
open Go Go.Am Go.Wk

def encB (B : Nat → Option (Nat × Nat)) (x : Nat) : Int × Int := match B x with
  | some p => ((p.1 : Int), (p.2 : Int))
  | none => (-1, 0)
def blB (B : Nat → Option (Nat × Nat)) (sz : Nat) : List (Int × Int) := (List.range sz).map (encB B)
theorem blB_len (B : Nat → Option (Nat × Nat)) (sz : Nat) : (blB B sz).length = sz := by simp [blB]
theorem blB_get (B : Nat → Option (Nat × Nat)) {sz x : Nat} (h : x < sz) : (blB B sz)[x]? = some (encB B x) := by simp [blB, h]
theorem blB_set (B : Nat → Option (Nat × Nat)) {sz x : Nat} (h : x < sz) (p : Nat × Nat) : (blB B sz).set x ((p.1 : Int), (p.2 : Int)) = blB (fset B x (some p)) sz := by
  apply List.ext_getElem?
  intro y
  by_cases hy : y < sz
  case neg => rw [List.getElem?_eq_none (by simp [blB_len]; omega), List.getElem?_eq_none (by simp [blB_len]; omega)]
  rw [List.getElem?_set, blB_len]
  by_cases e : x = y
  · subst e
    rw [if_pos rfl, if_pos h, blB_get _ h]
    unfold encB
    rw [fset_same]
  · rw [if_neg e, blB_get _ hy, blB_get _ hy]
    unfold encB
    rw [fset_ne (Ne.symm e)]
theorem nil_le (m sz : Nat) : LeCells m (List.replicate sz (AVal.sl 0 [] .full)) ((List.replicate sz ([] : List (Nat × Nat))).map encM) := by
  induction sz with
  | zero => trivial
  | succ sz ih => exact ⟨⟨rfl, .inr ⟨.inr rfl, .inr rfl⟩⟩, rfl, ih⟩
theorem newHeap (n : Nat) (h0 : 0 < n) (hn : n ≤ 65536) (H : List (List AVal)) : CFun Try.prog 95 [.int .i64 n] H (.ptr (H.length + 2) 0) (H ++ [rowZ (plOf n []), rowZ (List.replicate n 0), [.sl 0 [] .full, .osl H.length 0 n (some n) 1, .osl (H.length + 1) 0 n (some n) 1]]) := by
  have h3 : ∀ i, i < 3 → i = 0 ∨ i = 1 ∨ i = 2 := by omega
  have := (c64 n h0 hn).lift id (H := H) (H' := H ++ [rowZ (plOf n []), rowZ (List.replicate n 0), [.sl 0 [] .full, .osl H.length 0 n (some n) 1, .osl (H.length + 1) 0 n (some n) 1]])
    (fun i hi => by simp at hi) (fun i j hi _ _ => by simp at hi) (fun i c hc => by simp at hc) rfl (by simp)
    (fun i cs hi => by
      have hi4 : i < 3 := (List.getElem?_eq_some_iff.1 hi).1
      have hg : (H ++ [rowZ (plOf n []), rowZ (List.replicate n 0), [.sl 0 [] .full, .osl H.length 0 n (some n) 1, .osl (H.length + 1) 0 n (some n) 1]])[grow id ([] : List (List AVal)).length H.length i]? = [rowZ (plOf n []), rowZ (List.replicate n 0), [.sl 0 [] .full, .osl H.length 0 n (some n) 1, .osl (H.length + 1) 0 n (some n) 1]][i]? := by
        simp only [grow, List.length_nil, Nat.not_lt_zero, if_false, Nat.sub_zero]
        rw [List.getElem?_append_right (by omega), Nat.add_sub_cancel]
      rw [hg]
      rcases h3 i hi4 with rfl | rfl | rfl <;> simp only [List.getElem?_cons_zero, List.getElem?_cons_succ, Option.some.injEq] at hi <;> subst hi
      · rw [ren_rowZ]; exact ⟨rfl, low_rowZ _ _⟩
      · rw [ren_rowZ]; exact ⟨rfl, low_rowZ _ _⟩
      · refine ⟨?_, rfl⟩
        simp [ren0, grow, Nat.add_comm])
    (fun j hj _ => by rw [List.getElem?_append_left hj]) rfl
  have e : ren (grow id ([] : List (List AVal)).length H.length) (.ptr 2 0) = .ptr (H.length + 2) 0 := by simp [ren, ren0, grow, Nat.add_comm]
  rw [e] at this
  exact this
theorem treeCellsS {σ : Nat → Nat} {N n : Nat} : ∀ {cs : List AVal}, cs.all AVal.tree = true → LeCellsS σ N n cs cs
  | [], _ => trivial
  | c :: cs, h => by
    simp only [List.all_cons, Bool.and_eq_true] at h
    have e : ren σ c = c := by
      have := h.1
      cases c <;> first | rfl | simp [AVal.tree] at this
    exact ⟨by rw [e]; exact LeV_refl c, tree_low h.1, tree_low h.1, treeCellsS h.2⟩
theorem encM_leS {σ : Nat → Nat} {N n : Nat} (M : List (List (Nat × Nat))) : LeCellsS σ N n (M.map encM) (M.map encM) := by
  induction M with
  | nil => trivial
  | cons a M ih => exact ⟨LeV_refl _, rfl, rfl, ih⟩
def unset0 (B : Nat → Option (Nat × Nat)) : Nat → Nat
  | 0 => 0
  | sz + 1 => unset0 B sz + (if (B sz).isNone = true then 1 else 0)
theorem unset_fset {B : Nat → Option (Nat × Nat)} {x : Nat} (hx : B x = none) (p : Nat × Nat) : ∀ sz, unset0 (fset B x (some p)) sz + (if x < sz then 1 else 0) = unset0 B sz := by
  intro sz
  induction sz with
  | zero => rfl
  | succ sz ih =>
    simp only [unset0]
    by_cases e : x = sz
    · subst e
      rw [if_neg (Nat.lt_irrefl _)] at ih
      simp [fset_same, hx]
      omega
    · rw [fset_ne (Ne.symm e)]
      by_cases h : x < sz
      · rw [if_pos h] at ih
        rw [if_pos (show x < sz + 1 by omega), ← ih]
        omega
      · rw [if_neg h] at ih
        rw [if_neg (show ¬ x < sz + 1 by omega), ← ih]
        omega
structure RS2 where
  i : Nat
  its : List Nat
  jk : List Nat
  ks : List Int
structure RS where
  B : Nat → Option (Nat × Nat)
  its : List Nat
  jk : List Nat
  ks : List Int
  o : Option (Nat × Nat)
structure RI (E : List Arc) (z sz : Nat) (s : RS) : Prop where
  hi : HI sz s.its s.ks
  ne : s.its ++ s.jk ≠ []
  so : ∀ x k, s.o = some (x, k) → s.B x = none ∧ x < sz ∧ k < 1125899906842624 ∧ DI E z sz (fset s.B x (some (k / 65536, k % 65536))) (qOf s.its s.ks) (fun a => a.2.1 = x)
  no : s.o = none → s.its = [] ∧ DI E z sz s.B (qOf s.its s.ks) (fun _ => False)
def rsX (s : RS) : Nat := match s.o with
  | some p => p.1
  | none => 0
def rsK (s : RS) : Nat := match s.o with
  | some p => p.2
  | none => 0
set_option maxHeartbeats 8000000 in
set_option maxRecDepth 10000 in
theorem c48 (ls : List Lnk) (th : List Int) (n t : Nat) (h0 : 0 < n) (hn : n ≤ 128) (ht : t < n) (hth : th.length ≤ 64) (hls : ∀ x ∈ ls, okLk n x) (hL2 : ls.length ≤ 1024) (sz : Nat) (hsz : n * (th.length + 1) = sz) (z : Nat) (hz : th.length * n + t = z) :
    CFun Try.prog 84 [.ptr 0 0] [sC ls th n t] (.sl 2 ((blB (bestO (arcsN ls th n) z) sz).map fun p => .agg (ceP p)) .sh) [sC ls th n t] := by
  refine CFun.intro (tr := [100028, 100033]) (fz := [(2, 3, true)]) (n := 126) (rs := [.tmp 2]) Try.func84 rfl (by kernel_rfl) rfl rfl mixed (by kernel_rfl) (by simp) (by simp) ?_
  have hb : sz ≤ 128 * 65 := by rw [← hsz]; exact Nat.mul_le_mul hn (by omega)
  have hzs : z < sz := by rw [← hz, ← hsz, Nat.mul_comm n, Nat.succ_mul]; omega
  have hsp : 0 < sz := by omega
  have w1 : IntKind.i64.wrap ((th.length : Int) + 1) = ((th.length + 1 : Nat) : Int) := wrap_in (by omega)
  have w2 : IntKind.i64.wrap ((n : Int) * ((th.length + 1 : Nat) : Int)) = (sz : Int) := by
    rw [← Int.natCast_mul, hsz]
    exact wrap_in (by omega)
  have h62 := c62m ls th n t hn hth hls hL2 sz hsz
  have h64 := fun H => newHeap sz hsp (by omega) H
  have h66 := fun Z => at0 (c66 ls th n t hn (by omega) hth) rfl rfl rfl Z
  rw [hz] at h66
  have hE1 : ∀ a ∈ arcsN ls th n, 1 ≤ a.2.2 := fun a ha => (arcs_bound hls ha).2.2.1
  have hE2 : ∀ a ∈ arcsN ls th n, a.2.1 < sz := fun a ha => by rw [← hsz]; exact (arcs_bound hls ha).2.1
  have hE3 : ∀ a ∈ arcsN ls th n, a.1 < sz := fun a ha => by rw [← hsz]; exact (arcs_bound hls ha).1
  have hE4 : ∀ a ∈ arcsN ls th n, a.2.2 ≤ 65535 := fun a ha => (arcs_bound hls ha).2.2.2
  have b1 : ¬ (sz : Int) < 0 := by omega
  have b2 : 8 * sz ≤ 281474976710656 := by omega
  have b3 : sz ≤ 9223372036854775807 := by omega
  have b4 : 24 * sz ≤ 281474976710656 := by omega
  have b5 : (sz : Int) ≤ 9223372036854775807 := by omega
  have b6 : 16 * sz ≤ 281474976710656 := by omega
  simp only [sC] at *
  rw [Int.natCast_add] at w1 w2
  simp only [Int.cast_ofNat_Int] at w1 w2
  simp [w1, w2, b1, b2, b3, b4, b5, b6, hsp]
  have h62' := h62.less (H := [[.sl 13 (ls.map encL) .own, .sl 1 (th.map encI) .sh, .int .i64 n, .int .i64 t], List.replicate sz (AVal.sl 0 [] .full), [.osl 1 0 sz (some sz) 1]]) rfl (by have := nil_le 3 sz; simp only [List.map_replicate, encM, List.map_nil] at this; simp [LeBoxes, this])
  refine ⟨_, _, .inl (by simpa using h62'), by simp, ?_⟩
  clear h62 h62'
  have hM := encM_le
  obtain ⟨hMl, hMg⟩ := inM_spec (arcsN ls th n) sz
  generalize hMM : inM (arcsN ls th n) sz = M at *
  obtain ⟨mid, hmid⟩ : ∃ mid : Nat → List AVal, mid = fun i => rowC ceP (List.replicate i ((-1 : Int), (0 : Int)) ++ List.replicate (sz - i) ((0 : Int), (0 : Int))) := ⟨_, rfl⟩
  have m0 : (List.replicate sz [AVal.int .i64 0, AVal.int .i64 0]).flatten = mid 0 := by
    rw [hmid]
    simp [rowC, ceP, List.flatMap_replicate]
  have mle : ∀ m i, LeCells m (mid i) (mid i) := fun m i => by rw [hmid]; exact ePe.rowLe m _
  have mlen : ∀ i, i ≤ sz → (mid i).length = sz * 2 := fun i hi => by
    rw [hmid]
    show (rowC ceP _).length = _
    rw [ePe.rowLen, List.length_append, List.length_replicate, List.length_replicate, Nat.add_sub_cancel' hi]
  have mset : ∀ i, i < sz → setR (mid i) (i * 2) [.int .i64 (-1), .int .i64 0] = mid (i + 1) := by
    intro i hi
    rw [hmid]
    show setR (rowC ceP _) (i * 2) (ceP (-1, 0)) = rowC ceP _
    rw [ePe.setOne0 _ _ _ (by simp; omega), List.set_append_right _ _ (by simp)]
    congr 1
    rw [List.replicate_succ', List.append_assoc]
    congr 1
    rw [show sz - i = (sz - (i + 1)) + 1 by omega, List.replicate_succ]
    simp
  have mfin : mid sz = rowC ceP (blB (fun _ => none) sz) := by
    rw [hmid]
    show rowC ceP _ = _
    congr 1
    rw [Nat.sub_self, List.replicate_zero, List.append_nil]
    unfold blB encB
    rw [List.map_const']
    simp
  clear hmid
  simp [w1, w2, b1, b2, b3, b4, b5, b6, hsp, m0]
  refine LoopK.intro (tr := [100028, 100033]) mixed (by kernel_rfl) (fun i : Nat => [(0, .ptr 0 0), (3, .int .i64 sz), (4, .ptr 2 0), (5, .osl 3 0 sz (some sz) 2), (35, .int .i64 sz), (36, .int .i64 i)]) (fun i => [[.sl 13 (ls.map encL) .own, .sl 1 (th.map encI) .sh, .int .i64 n, .int .i64 t], M.map encM, [.osl 1 0 sz (some sz) 1], mid i]) (fun i => i ≤ sz) (fun i => sz - i) 0 ?_ ?_ ?_
  · simp
  · simp [hM, mle]
    done
  · intro i hi
    by_cases hi2 : i < sz
    · have w3 : IntKind.i64.wrap ((i : Int) + 1) = i + 1 := wrap_in (by omega)
      have q1 := mlen i hi
      have q2 : i * 2 + 2 ≤ sz * 2 := by omega
      simp [hi2, q1, q2, mset i hi2, w3]
      exact ⟨i + 1, by omega, by omega, by simp [hM, mle]⟩
    have : sz = i := by omega
    subst this
    clear hi hi2
    have hsF := fun H a q r d1 d2 d3 ha hq hr => setFirst (N := sz) (ks := List.replicate sz 0) (by simp) z hzs 0 (H := H) (a := a) (q := q) (r := r) d1 d2 d3 ha hq hr
    obtain ⟨hi1, hq1⟩ := HI.first hzs (ks := List.replicate sz 0) (by simp) 0
    rw [show ((0 : Nat) : Int) = 0 from rfl] at hi1 hq1
    have hpop1 := hi1.pop (n := 0) rfl rfl
    have hks1 : ((List.replicate sz (0 : Int)).set z 0).length = sz := by simp
    have hkz : ((List.replicate sz (0 : Int)).set z 0).getD z 0 = 0 := by rw [Wk.getD_set (by simpa using hzs), if_pos rfl]
    have hpp : popL ((List.replicate sz (0 : Int)).set z 0) [z] = [] := by simp [popL, sw]
    have c67 := c67a sz [] ((List.replicate sz (0 : Int)).set z 0) hks1 0 (by decide) [z] rfl (by simp) (by simpa using hzs)
    rw [hpp] at c67 hpop1
    simp only [hH, hB, List.append_nil, List.nil_append, List.length_nil, List.length_singleton, List.getD_cons_zero, hkz] at c67
    simp only [List.getD_cons_zero, hkz] at hpop1
    generalize (List.replicate sz (0 : Int)).set z 0 = ks1 at *
    have hDI0 : DI (arcsN ls th n) z sz (fset (fun _ => none) z (some (0 / 65536, 0 % 65536))) (fset (fset (fun _ => none) z (some 0)) z none) (fun a => a.2.1 = z) :=
      (DI.start hzs).pop hE1 hE2 (by omega) fset_same (fun y k' _ => by omega)
    simp
    refine ⟨_, _, .inl (by simpa using h64 _), by simp, ?_⟩
    simp
    refine ⟨_, _, .inl (by simpa using h66 _), by simp, ?_⟩
    simp
    refine ⟨_, _, .inl (by simpa using hsF _ 6 4 5 (by decide) (by decide) (by decide) rfl rfl rfl), by simp, ?_⟩
    simp
    refine ⟨_, _, .inl (by simpa [four, ren, ren0] using hAt c67 (H := [[.sl 13 (ls.map encL) .own, .sl 1 (th.map encI) .sh, .int .i64 n, .int .i64 t], M.map encM, [.osl 1 0 sz (some sz) 1], mid sz, rowZ (plOf sz [z]), rowZ ks1, [.osl 7 0 1 none 1, .osl 4 0 sz (some sz) 1, .osl 5 0 sz (some sz) 1], rowN [z]]) (a := 6) (p := 7) (q := 4) (r := 5) (by decide) (by decide) (by decide) (by decide) (by decide) (by decide) rfl rfl rfl rfl rfl rfl), by simp, ?_⟩
    simp
    rw [mfin]
    clear mset mle mlen m0 mfin mid c67 h64 h66 hsF
    have hrI := fun m l => leI m l
    have hrN := fun m l => leN m l
    have hrP := fun m (l : List (Int × Int)) => ePe.rowLe m l
    refine LoopK.intro (tr := [100028, 100033]) mixed (by kernel_rfl)
      (fun s : RS => [(0, .ptr 0 0), (3, .int .i64 sz), (4, .ptr 2 0), (5, .osl 3 0 sz (some sz) 2), (7, .ptr 6 0), (8, .int .i64 (rsX s)), (9, .int .i64 (rsK s)), (10, .bool s.o.isSome)])
      (fun s => [[.sl 13 (ls.map encL) .own, .sl 1 (th.map encI) .sh, .int .i64 n, .int .i64 t], M.map encM, [.osl 1 0 sz (some sz) 1], rowC ceP (blB s.B sz), rowZ (plOf sz s.its), rowZ s.ks, [.osl 7 0 s.its.length none 1, .osl 4 0 sz (some sz) 1, .osl 5 0 sz (some sz) 1], rowN (s.its ++ s.jk)])
      (RI (arcsN ls th n) z sz) (fun s => unset0 s.B sz + (if s.o.isSome then 1 else 0)) ⟨fun _ => none, [], [z], ks1, some (z, 0)⟩ ?_ ?_ ?_
    · refine ⟨hpop1.1, by simp, fun x k e => ?_, fun e => by cases e⟩
      injection e with e
      injection e with e1 e2
      subst e1 e2
      refine ⟨rfl, hzs, by omega, ?_⟩
      rw [hpop1.2.1, hq1]
      exact hDI0
    · simp [hM, hrI, hrN, hrP, rsX, rsK]
      done
    · rintro ⟨B, its, jk, ks, o⟩ ⟨hi, hne, hso, hno⟩
      simp only at hi hne hso hno
      cases o with
      | none =>
        obtain ⟨hits, hdi⟩ := hno rfl
        subst hits
        have hB := hdi.all hE1 hE2 (fun x => by simp [qOf])
        rw [← hB]
        have hch := ePe.chunk (blB B sz) sz (blB_len B sz)
        have hrl := ePe.rowLen (blB B sz)
        rw [blB_len] at hrl
        have htr := ePe.rowTree (blB B sz)
        have htk : (rowC ceP (blB B sz)).take (sz * 2) = rowC ceP (blB B sz) := List.take_of_length_le (by omega)
        simp [hch, hrl, htr, htk, hsp, -List.all_eq_true]
      | some p =>
        obtain ⟨x, k⟩ := p
        obtain ⟨hBx, hx, hk, hDI⟩ := hso x k rfl
        clear hso hno
        obtain ⟨c, hc⟩ : ∃ c, c = k / 65536 := ⟨_, rfl⟩
        obtain ⟨j, hj⟩ : ∃ j, j = k % 65536 := ⟨_, rfl⟩
        rw [← hc, ← hj] at hDI
        have v1 : ((k : Int).fdiv 65536) = (c : Int) := by
          rw [hc, Int.fdiv_eq_ediv_of_nonneg _ (by decide)]
          rfl
        have v2 : IntKind.i64.wrap ((k % 2 ^ IntKind.i64.bits &&& 65535 % 2 ^ IntKind.i64.bits : Nat) : Int) = (j : Int) := by
          have p2 : (2 : Nat) ^ IntKind.i64.bits = 18446744073709551616 := by decide
          rw [p2]
          have e2 : 65535 % 18446744073709551616 = 2 ^ 16 - 1 := by decide
          rw [Nat.mod_eq_of_lt (by omega), e2, Nat.and_two_pow_sub_one_eq_mod, hj]
          exact wrap_in (by omega)
        have p16 : (2 : Int) ^ (min 16 IntKind.i64.bits) = 65536 := by decide
        have g1 := ePe.rowLen (blB B sz)
        rw [blB_len] at g1
        have g2 : x * 2 + 2 ≤ sz * 2 := by omega
        have g3 : setR (rowC ceP (blB B sz)) (x * 2) [.int .i64 c, .int .i64 j] = rowC ceP (blB (fset B x (some (c, j))) sz) := by
          rw [← blB_set B hx (c, j)]
          exact ePe.setOne0 (blB B sz) x ((c : Int), (j : Int)) (by rw [blB_len]; exact hx)
        have g4 : ((rowC ceP (blB B sz)).set (x * 2) (.int .i64 c)).set (x * 2 + 1) (.int .i64 j) = rowC ceP (blB (fset B x (some (c, j))) sz) := by
          rw [← g3]
          rfl
        have hMx := hMg x hx
        have hxM : x < M.length := by omega
        obtain ⟨A, hA⟩ : ∃ A, A = (arcsN ls th n).filter fun a => a.2.1 == x := ⟨_, rfl⟩
        rw [← hA] at hMx
        obtain ⟨l, hl⟩ : ∃ l, l = A.map fun a => (a.1, a.2.2) := ⟨_, rfl⟩
        rw [← hl] at hMx
        obtain ⟨B1, hB1⟩ : ∃ B1, B1 = fset B x (some (c, j)) := ⟨_, rfl⟩
        rw [← hB1] at hDI g4
        have hun := unset_fset hBx (c, j) sz
        rw [if_pos hx, ← hB1] at hun
        have hB1x : B1 x = some (c, j) := by rw [hB1]; exact fset_same
        obtain ⟨ws, hw, hwl⟩ := (hDI.a x c j hB1x).1
        have hcb := hw.cost hE4
        have hjb := (hDI.a x c j hB1x).hops hE1 hE2 hx
        have hcb2 : ws.length * 65535 ≤ 8320 * 65535 := Nat.mul_le_mul_right _ (by omega)
        have hDI' : DI (arcsN ls th n) z sz B1 (qOf its ks) (fun a => a ∈ A.drop 0) := hDI.less (fun a ha hp => by
          rw [hA, List.drop_zero]
          exact List.mem_filter.2 ⟨ha, by simpa using hp⟩)
        have hcS : c ≤ 545251200 := by omega
        have hjS : j + 1 ≤ 8320 := by omega
        clear hDI hw hwl g3 hB1 hBx hcb hjb hcb2
        simp [rsX, rsK, p16, v1, v2, g1, g2, hx, g4, hMl, gE hMx, hMx]
        have hll : l.length = A.length := by rw [hl]; simp
        have hLb : l.length ≤ 66560 := by
          rw [hll, hA]
          have e1 := List.length_filter_le (fun a : Nat × Nat × Nat => a.2.1 == x) (arcsN ls th n)
          have e2 := arcs_len ls th n
          have e3 : (th.length + 1) * ls.length ≤ 65 * 1024 := Nat.mul_le_mul (by omega) hL2
          omega
        refine LoopK.introS (tr := [100028, 100033]) mixed (by kernel_rfl)
          (fun s : RS2 => [(0, .ptr 0 0), (3, .int .i64 sz), (4, .ptr 2 0), (5, .osl 3 0 sz (some sz) 2), (7, .ptr 6 0), (8, .int .i64 x), (74, .sl 2 (l.map encV) .sh), (75, .int .i64 l.length), (76, .int .i64 s.i)])
          (fun s => [[.sl 13 (ls.map encL) .own, .sl 1 (th.map encI) .sh, .int .i64 n, .int .i64 t], M.map encM, [.osl 1 0 sz (some sz) 1], rowC ceP (blB B1 sz), rowZ (plOf sz s.its), rowZ s.ks, [.osl 7 0 s.its.length none 1, .osl 4 0 sz (some sz) 1, .osl 5 0 sz (some sz) 1], rowN (s.its ++ s.jk)])
          (fun s => s.i ≤ l.length ∧ HI sz s.its s.ks ∧ s.its ++ s.jk ≠ [] ∧ DI (arcsN ls th n) z sz B1 (qOf s.its s.ks) (fun a => a ∈ A.drop s.i)) (fun s => l.length - s.i) ⟨0, its, jk, ks⟩ ?_ ?_ ?_
        · exact ⟨by simp, hi, hne, hDI'⟩
        · simp [hM, hrI, hrN, hrP]
          done
        · clear hi hne hDI'
          rintro ⟨i, its, jk, ks⟩ ⟨h1, hi, hne, hDI⟩
          simp only at h1 hi hne hDI
          generalize hPQ : LoopPostS _ _ _ _ _ _ _ = PQ
          by_cases hil : i < l.length
          case neg =>
            have hiL : i = l.length := by omega
            have hDI2 : DI (arcsN ls th n) z sz B1 (qOf its ks) (fun _ => False) := hDI.less (fun a _ ha => by
              rw [hiL, hll, List.drop_length] at ha
              simp at ha)
            cases hm : its.length with
            | zero =>
              have hits : its = [] := List.eq_nil_of_length_eq_zero hm
              subst hits
              have hp := c67n sz jk ks hi.len
              simp only [hH, hB, List.nil_append, List.length_nil] at hp
              simp [hil]
              rw [← hPQ]
              simp only [LoopPostS]
              simp
              refine ⟨_, _, .inl (by simpa [four, ren, ren0] using hAt hp (H := [[.sl 13 (ls.map encL) .own, .sl 1 (th.map encI) .sh, .int .i64 n, .int .i64 t], M.map encM, [.osl 1 0 sz (some sz) 1], rowC ceP (blB B1 sz), rowZ (plOf sz []), rowZ ks, [.osl 7 0 0 none 1, .osl 4 0 sz (some sz) 1, .osl 5 0 sz (some sz) 1], rowN jk]) (a := 6) (p := 7) (q := 4) (r := 5) (by decide) (by decide) (by decide) (by decide) (by decide) (by decide) rfl rfl rfl rfl rfl rfl), by simp, ?_⟩
              simp
              exact ⟨⟨B1, [], jk, ks, none⟩, ⟨hi, hne, (fun x k e => by cases e), fun _ => ⟨rfl, hDI2⟩⟩, by simp only [Option.isSome_none, Option.isSome_some, if_true, Bool.false_eq_true, if_false]; omega, by simp [hM, hrI, hrN, hrP, rsX, rsK]⟩
            | succ m =>
              obtain ⟨hi3, hq3, hqx, hx3, hk3, hmin⟩ := hi.pop hm rfl
              have hp := c67a sz jk ks hi.len m (by have := nodup_length hi.nd hi.lt; omega) its hm hi.nd hi.lt
              generalize its.getD 0 0 = x3 at *
              have hkk : ks.getD x3 0 = (((ks.getD x3 0).toNat : Nat) : Int) := by omega
              obtain ⟨k3, hk4⟩ : ∃ k3, k3 = (ks.getD x3 0).toNat := ⟨_, rfl⟩
              rw [← hk4] at hqx hmin hkk
              rw [hkk] at hp
              have hDI3 := hDI2.pop hE1 hE2 (by omega) hqx hmin
              obtain ⟨hb3, _, c3, j3, ws3, e3, hw3, hl3, hj3⟩ := hDI2.b _ _ hqx
              have hc3 := hw3.cost hE4
              have hc4 : ws3.length * 65535 ≤ 8320 * 65535 := Nat.mul_le_mul_right _ (by omega)
              have hpl : (popL ks its).length = m := by
                have := hi3.nd
                unfold popL
                rw [hm, Nat.add_sub_cancel]
                have h2 : ((sw its 0 m).take m).length = m := by simp [sw_len]; omega
                split
                · rw [(settle_perm (by omega)).length_eq, h2]
                · exact h2
              simp only [hH, hB, hm, hpl] at hp
              simp [hil, hm]
              rw [← hPQ]
              simp only [LoopPostS]
              simp
              refine ⟨_, _, .inl (by simpa [four, ren, ren0] using hAt hp (H := [[.sl 13 (ls.map encL) .own, .sl 1 (th.map encI) .sh, .int .i64 n, .int .i64 t], M.map encM, [.osl 1 0 sz (some sz) 1], rowC ceP (blB B1 sz), rowZ (plOf sz its), rowZ ks, [.osl 7 0 (m + 1) none 1, .osl 4 0 sz (some sz) 1, .osl 5 0 sz (some sz) 1], rowN (its ++ jk)]) (a := 6) (p := 7) (q := 4) (r := 5) (by decide) (by decide) (by decide) (by decide) (by decide) (by decide) rfl rfl rfl rfl rfl rfl), by simp, ?_⟩
              simp
              refine ⟨⟨B1, popL ks its, x3 :: jk, ks, some (x3, k3)⟩, ⟨hi3, by simp, fun x k e => ?_, fun e => by cases e⟩, by simp only [Option.isSome_some, if_true]; omega, by simp [hM, hrI, hrN, hrP, rsX, rsK, hpl]⟩
              injection e with e
              injection e with e1 e2
              subst e1 e2
              refine ⟨hb3, hx3, by omega, ?_⟩
              rw [hq3]
              exact hDI3
          obtain ⟨a, ha⟩ : ∃ a, A[i]? = some a := ⟨_, List.getElem?_eq_getElem (by omega)⟩
          have haA : a ∈ A := List.mem_of_getElem? ha
          have haE : a ∈ arcsN ls th n ∧ a.2.1 = x := by
            rw [hA] at haA
            obtain ⟨h1, h2⟩ := List.mem_filter.1 haA
            exact ⟨h1, by simpa using h2⟩
          obtain ⟨x', y', co⟩ := a
          obtain ⟨haE, hy'⟩ := haE
          simp only at hy'
          subst hy'
          have hlg : l[i]? = some (x', co) := by rw [hl]; simp [ha]
          have hx' := hE3 _ haE
          have hco := hE4 _ haE
          simp only at hx' hco
          have hR := hDI.relax hE1 hE2 hE3 haE hB1x
          obtain ⟨v, hv⟩ : ∃ v, v = (c + co) * 65536 + (j + 1) := ⟨_, rfl⟩
          rw [← hv] at hR
          have hR' : ∀ q', q' = relax B1 (qOf its ks) x' v → DI (arcsN ls th n) z sz B1 q' (fun b => b ∈ A.drop (i + 1)) := by
            rintro q' rfl
            refine hR.less (fun b hb hp => ?_)
            rw [List.drop_eq_getElem_cons (by omega)] at hp
            have e : A[i]'(by omega) = (x', y', co) := by
              rw [List.getElem?_eq_getElem (by omega)] at ha
              injection ha
            rw [e] at hp
            rcases List.mem_cons.1 hp.1 with hp1 | hp1
            · exact absurd hp1 hp.2
            · exact hp1
          clear hR hDI
          have hcc : c + co < 1099511627776 := by clear hc hj; omega
          have hjj : j + 1 < 65536 := by clear hc hj; omega
          have h68 := fun H => (c68 (c + co) (j + 1) hcc hjj).up' H rfl rfl
          have hkey : keyN (c + co) (j + 1) = v := hv.symm
          rw [hkey] at h68
          have u1 : IntKind.i64.wrap ((c : Int) + co) = (c : Int) + co := wrap_in (by omega)
          have u2 : IntKind.i64.wrap ((j : Int) + 1) = (j : Int) + 1 := wrap_in (by omega)
          have u3 : IntKind.i64.wrap ((i : Int) + 1) = i + 1 := wrap_in (by omega)
          have b0 := rowP_0 (blB_get B1 hx)
          have b1' := rowP_1 (blB_get B1 hx)
          have b2' := rowP_0 (blB_get B1 hx')
          have eB : encB B1 y' = ((c : Int), (j : Int)) := by unfold encB; rw [hB1x]
          rw [eB] at b0 b1'
          simp only at b0 b1'
          have hrl := ePe.rowLen (blB B1 sz)
          rw [blB_len] at hrl
          have r1 : y' * 2 < sz * 2 := by omega
          have r2 : y' * 2 + 1 < sz * 2 := by omega
          have r3 : x' * 2 < sz * 2 := by omega
          have h69 := c69 sz its jk ks hi.len x' hx'
          simp only [hH, hB] at h69
          have h69' := hAt h69 (H := [[.sl 13 (ls.map encL) .own, .sl 1 (th.map encI) .sh, .int .i64 n, .int .i64 t], M.map encM, [.osl 1 0 sz (some sz) 1], rowC ceP (blB B1 sz), rowZ (plOf sz its), rowZ ks, [.osl 7 0 its.length none 1, .osl 4 0 sz (some sz) 1, .osl 5 0 sz (some sz) 1], rowN (its ++ jk), [.int .i64 x', .int .i64 co]]) (a := 6) (p := 7) (q := 4) (r := 5) (by decide) (by decide) (by decide) (by decide) (by decide) (by decide) rfl rfl rfl rfl rfl rfl
          clear h69
          have hyM := hx
          simp [hil, hlg, gE hlg, hx, hrl, r1, r2, b0, b1', gE b0, gE b1', u1, u2]
          refine ⟨_, _, .inl (by simpa using h68 _), by simp, ?_⟩
          simp
          refine ⟨_, _, .inl (by simpa [four, ren, ren0] using h69'), by simp, ?_⟩
          clear h69' h68
          have hcs : (((c + co : Nat) : Int)) = (c : Int) + co := by omega
          cases hbx : B1 x' with
          | some q =>
            have eB' : encB B1 x' = ((q.1 : Int), (q.2 : Int)) := by unfold encB; rw [hbx]
            rw [eB'] at b2'
            simp only at b2'
            have d1 : ¬ (q.1 : Int) < 0 := by omega
            have hst := hR' (qOf its ks) (by unfold relax; rw [if_neg (by simp [hbx])])
            simp [hx', hrl, r3, b2', gE b2', d1]
            rw [← hPQ]
            simp only [LoopPostS]
            exact ⟨⟨i + 1, its, jk, ks⟩, ⟨by simp only; omega, hi, hne, hst⟩, by simp only; omega, .inl (by simp [hM, hrI, hrN, hrP, u3])⟩
          | none =>
            have eB' : encB B1 x' = (-1, 0) := by unfold encB; rw [hbx]
            rw [eB'] at b2'
            simp only at b2'
            have hlen1 : its.length < 1000000 := by have := nodup_length hi.nd hi.lt; omega
            by_cases hm : x' ∈ its
            · have hpos := hi.pos x' hm
              obtain ⟨kv, hkv⟩ : ∃ kv, kv = ks.getD x' 0 := ⟨_, rfl⟩
              have hkv2 : ks[x']?.getD 0 = kv := by rw [hkv, List.getD_eq_getElem?_getD]
              rw [← hkv] at hpos
              have hqv : qOf its ks x' = some kv.toNat := by unfold qOf; rw [if_pos hm, hkv]
              by_cases hv2 : (v : Int) < kv
              · obtain ⟨hi4, hq4⟩ := hi.old (v := v) hm
                have hst := hR' (fset (qOf its ks) x' (some v)) (by unfold relax; rw [if_pos ⟨hbx, .inr ⟨kv.toNat, hqv, by omega⟩⟩])
                rw [← hq4] at hst
                have h65 := c65a sz jk ks hi.len its.length hlen1 its rfl hi.nd hi.lt x' hm v
                have hsl := (settle_perm (ks := ks.set x' (v : Int)) (get_idx hm).2).length_eq
                simp only [hH, hB, hsl] at h65
                generalize settleH (ks.set x' (v : Int)) its (its.idxOf x') = its4 at *
                have h65' := hAt h65 (H := [[.sl 13 (ls.map encL) .own, .sl 1 (th.map encI) .sh, .int .i64 n, .int .i64 t], M.map encM, [.osl 1 0 sz (some sz) 1], rowC ceP (blB B1 sz), rowZ (plOf sz its), rowZ ks, [.osl 7 0 its.length none 1, .osl 4 0 sz (some sz) 1, .osl 5 0 sz (some sz) 1], rowN (its ++ jk), [.int .i64 x', .int .i64 co]]) (a := 6) (p := 7) (q := 4) (r := 5) (by decide) (by decide) (by decide) (by decide) (by decide) (by decide) rfl rfl rfl rfl rfl rfl
                have hne4 : its4 ++ jk ≠ [] := by
                  intro e
                  have := congrArg List.length e
                  simp only [List.length_append, List.length_nil, hsl] at this
                  have h5 := (get_idx hm).2
                  omega
                simp [hx', hrl, r3, b2', gE b2', hm, hkv2, hv2]
                refine ⟨_, _, .inl (by simpa [four, ren, ren0] using h65'), by simp, ?_⟩
                simp
                rw [← hPQ]
                simp only [LoopPostS]
                exact ⟨⟨i + 1, its4, jk, ks.set x' v⟩, ⟨by simp only; omega, hi4, hne4, hst⟩, by simp only; omega, .inl (by simp [hM, hrI, hrN, hrP, u3, hsl])⟩
              · have hst := hR' (qOf its ks) (by
                  unfold relax
                  rw [if_neg]
                  rintro ⟨_, h | ⟨k', h1, h2⟩⟩
                  · rw [hqv] at h; cases h
                  · rw [hqv] at h1; injection h1 with h1; omega)
                simp [hx', hrl, r3, b2', gE b2', hm, hkv2, hv2]
                rw [← hPQ]
                simp only [LoopPostS]
                exact ⟨⟨i + 1, its, jk, ks⟩, ⟨by simp only; omega, hi, hne, hst⟩, by simp only; omega, .inl (by simp [hM, hrI, hrN, hrP, u3])⟩
            · obtain ⟨hi4, hq4⟩ := hi.new (v := v) hm hx'
              have hqv : qOf its ks x' = none := by unfold qOf; rw [if_neg hm]
              have hst := hR' (fset (qOf its ks) x' (some v)) (by unfold relax; rw [if_pos ⟨hbx, .inl hqv⟩])
              rw [← hq4] at hst
              have hlen2 : its.length + 1 < 1000000 := by have := nodup_length hi.nd hi.lt; omega
              have h65 := setNew hi.len hlen2 rfl hi.nd hi.lt hne x' hm hx' v (H := [[.sl 13 (ls.map encL) .own, .sl 1 (th.map encI) .sh, .int .i64 n, .int .i64 t], M.map encM, [.osl 1 0 sz (some sz) 1], rowC ceP (blB B1 sz), rowZ (plOf sz its), rowZ ks, [.osl 7 0 its.length none 1, .osl 4 0 sz (some sz) 1, .osl 5 0 sz (some sz) 1], rowN (its ++ jk), [.int .i64 x', .int .i64 co]]) (a := 6) (p := 7) (q := 4) (r := 5) (by decide) (by decide) (by decide) (by decide) (by decide) (by decide) rfl rfl rfl rfl
              have hsl := (settle_perm (ks := ks.set x' (v : Int)) (l := its ++ [x']) (i := its.length) (by simp)).length_eq
              rw [List.length_append, List.length_singleton] at hsl
              generalize settleH (ks.set x' (v : Int)) (its ++ [x']) its.length = its4 at *
              have hne4 : its4 ++ [] ≠ [] := by
                intro e
                have := congrArg List.length e
                simp only [List.length_append, List.length_nil, hsl] at this
                omega
              have t1 : ∀ l : List Nat, LeCellsS (swp 7 9) 10 8 (rowN l) (rowN l) := fun l => treeCellsS (treeN l)
              have t2 : ∀ l : List Int, LeCellsS (swp 7 9) 10 8 (rowZ l) (rowZ l) := fun l => treeCellsS (treeI l)
              have t3 : ∀ l : List (Int × Int), LeCellsS (swp 7 9) 10 8 (rowC ceP l) (rowC ceP l) := fun l => treeCellsS (ePe.rowTree l)
              have t4 : LeCellsS (swp 7 9) 10 8 (M.map encM) (M.map encM) := encM_leS M
              simp [hx', hrl, r3, b2', gE b2', hm]
              refine ⟨_, _, .inl (by simpa using h65), by simp, ?_⟩
              simp
              rw [← hPQ]
              simp only [LoopPostS]
              refine ⟨⟨i + 1, its4, [], ks.set x' v⟩, ⟨by simp only; omega, hi4, hne4, hst⟩, by simp only; omega, .inr ⟨7, 9, by simp, by simp, by simp, by simp, by simp, ?_, ?_⟩⟩
              · simp [LeLookS, ren, ren0, swp, u3]
                done
              · simp [LeBoxesS, swpH, t1, t2, t3, t4, LeCellsS, ren, ren0, swp, hsl]
                done
end Go.Proofs.Ytpmmnnaaoideeaa
