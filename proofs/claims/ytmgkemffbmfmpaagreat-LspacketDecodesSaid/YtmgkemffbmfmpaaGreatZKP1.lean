import Derived.Test.YtmgkemffbmfmpaaGreatZK14
set_option linter.unusedSimpArgs false
set_option linter.unusedVariables false
namespace Go.Proofs.YtmgkemffbmfmpaaGreat
open Go Go.Am

end Go.Proofs.YtmgkemffbmfmpaaGreat

namespace Go.Proofs.YtmgkemffbmfmpaaGreat
open Go Go.Am

-- lspacket.sameLSA
end Go.Proofs.YtmgkemffbmfmpaaGreat

namespace Go.Proofs.YtmgkemffbmfmpaaGreat
open Go Go.Am

def sameL (a b : Lsa) : Bool := decide (a.H = b.H) && sameB a b
/-- What Same means. -/
def sameP (a b : Pkt) : Bool :=
  decide (a.Kind = b.Kind) && (decide (a.Router = b.Router) && (decide (a.Area = b.Area) && (decide (a.Addr = b.Addr) && (decide (a.E = b.E) && (decide (a.Seq = b.Seq) && (decide (a.Init = b.Init) && (decide (a.More = b.More) && (decide (a.Master = b.Master) &&
    (decide (a.Heads = b.Heads) && (decide (a.Keys = b.Keys) && eqW sameL a.Lsas b.Lsas))))))))))
structure okS (p : Pkt) : Prop where
  seen : p.E.Seen.length < 140737488355328
  keys : p.Keys.length < 8796093022208
  lsas : p.Lsas.length < 1099511627776
  heads : p.Heads.length < 8796093022208
  oka : ∀ x ∈ p.Lsas, okA x
-- lspacket.Same
end Go.Proofs.YtmgkemffbmfmpaaGreat

namespace Go.Proofs.YtmgkemffbmfmpaaGreat
open Go Go.Am

-- routingref24.Same
set_option maxHeartbeats 8000000 in
set_option maxRecDepth 10000 in
theorem f23 (a b : Pkt) (ok : okS a) : CFun Tryz.prog 6 [encPk a, encPk b] [] (.bool (sameP a b)) [] := by
  refine CFun.intro (tr := []) (fz := []) (n := 130) (rs := [.tmp 4]) Tryz.func6 rfl (by kernel_rfl) rfl rfl mixed (by kernel_rfl) (by simp) (by simp) ?_
  have h1 := fun H => (f79 a.E b.E ok.seen).up' H rfl rfl
  have h2 := fun H => (f42 a.Heads b.Heads _ _ rfl rfl ok.heads).up' H rfl rfl
  have h4 : ∀ x ∈ a.Lsas, ∀ y H, CFun Tryz.prog 20 [encA x, encA y] H (.bool (sameL x y)) H := fun x hx y H => (c20 x y (ok.oka x hx).2.2.2.2.2.2.1 (ok.oka x hx).2.2.2.2.2.2.2).up' H rfl rfl
  have ok3 := ok.keys
  have ok4 := ok.lsas
  unfold sameP
  generalize decide (a.E = b.E) = vE at h1 ⊢
  generalize decide (a.Heads = b.Heads) = vH at h2 ⊢
  by_cases b1 : a.Kind = b.Kind
  case neg => simp [b1]
  by_cases b2 : a.Router = b.Router
  case neg => simp [b1, b2]
  by_cases b3 : a.Area = b.Area
  case neg => simp [b1, b2, b3]
  by_cases b4 : a.Addr = b.Addr
  case neg => simp [b1, b2, b3, b4]
  simp [b1, b2, b3, b4]
  refine ⟨_, _, .inl (by simpa [b1, b2, b3, b4] using h1 _), by simp, ?_⟩
  cases vE
  case false => simp
  by_cases b5 : a.Seq = b.Seq
  case neg => simp [b1, b2, b3, b4, b5]
  by_cases b6 : a.Init = b.Init
  case neg => simp [b1, b2, b3, b4, b5, b6]
  by_cases b7 : a.More = b.More
  case neg => simp [b1, b2, b3, b4, b5, b6, b7]
  by_cases b8 : a.Master = b.Master
  case neg => simp [b1, b2, b3, b4, b5, b6, b7, b8]
  simp [b1, b2, b3, b4, b5, b6, b7, b8]
  refine ⟨_, _, .inl (by simpa [b1, b2, b3, b4, b5, b6, b7, b8] using h2 _), by simp, ?_⟩
  cases vH
  case false => simp
  generalize hk : a.Keys.length = nk at ok3
  generalize hk' : b.Keys.length = mk
  generalize hl : a.Lsas.length = nl at ok4
  generalize hl' : b.Lsas.length = ml
  by_cases e1 : nk = mk
  case neg =>
    have e1' : ¬ (nk : Int) = mk := by omega
    have : a.Keys ≠ b.Keys := fun h => e1 (by rw [← hk, ← hk', h])
    simp [hk, hk', e1', this]
  by_cases e2 : nl = ml
  case neg =>
    have e2' : ¬ (nl : Int) = ml := by omega
    have := eqW_len (r := sameL) (show a.Lsas.length ≠ b.Lsas.length by omega)
    simp [hk, hk', hl, hl', e1, e2', this]
  subst e1
  subst e2
  simp [hk, hk', hl, hl']
  refine LoopK.intro (tr := []) mixed (by kernel_rfl) (fun i : Nat => [(2, .ptr 0 0), (3, .ptr 1 0), (5, .int .i64 i)]) (fun _ => [cellsPk a, cellsPk b]) (fun i => i ≤ nk ∧ (a.Keys = b.Keys ↔ a.Keys.drop i = b.Keys.drop i)) (fun i => nk - i) 0 ?_ ?_ ?_
  · simp
  · simp [b1, b2, b3, b4, b5, b6, b7, b8]
  · rintro i ⟨g1, g2⟩
    by_cases hi : i < nk
    · obtain ⟨r, hx, hd⟩ := get_drop (l := a.Keys) (i := i) (by omega)
      obtain ⟨t, hy, he⟩ := get_drop (l := b.Keys) (i := i) (by omega)
      rw [hd, he, List.cons.injEq] at g2
      have w1 : IntKind.i64.wrap ((i : Int) + 1) = i + 1 := wrap_in (by omega)
      have hext : r = t ↔ r.Ty = t.Ty ∧ r.ID = t.ID ∧ r.Len = t.Len ∧ r.Router = t.Router := by
        cases r; cases t; simp
      clear hd he
      by_cases hrt : r = t
      · subst hrt
        simp [hk, hk', hi, hx, hy, gE hx, gE hy, w1]
        exact ⟨i + 1, ⟨by omega, by simpa using g2⟩, by omega, by simp⟩
      · have hne : ¬ (a.Keys = b.Keys) := by rw [g2]; simp [hrt]
        rw [hext] at hrt
        by_cases c1 : r.Ty = t.Ty <;> by_cases c2 : r.ID = t.ID <;> by_cases c3 : r.Len = t.Len <;> by_cases c4 : r.Router = t.Router <;> simp [c1, c2, c3, c4] at hrt <;>
          simp [hk, hk', hi, hx, hy, gE hx, gE hy, c1, c2, c3, c4, hne]
    · have e : a.Keys.drop i = [] := List.drop_of_length_le (by omega)
      have e' : b.Keys.drop i = [] := List.drop_of_length_le (by omega)
      rw [e, e'] at g2
      have hke : a.Keys = b.Keys := by simpa using g2
      have hi' : ¬ (i : Int) < nk := by omega
      have hke' : (a.Keys = b.Keys) = True := eq_true hke
      have hi0 : i = nk := by omega
      subst hi0
      simp [hk, hke']
      refine LoopK.intro (tr := []) mixed (by kernel_rfl) (fun i : Nat => [(2, .ptr 0 0), (3, .ptr 1 0), (6, .int .i64 i)]) (fun _ => [cellsPk a, cellsPk b]) (fun i => i ≤ nl ∧ eqW sameL a.Lsas b.Lsas = eqW sameL (a.Lsas.drop i) (b.Lsas.drop i)) (fun i => nl - i) 0 ?_ ?_ ?_
      · simp
      · simp
      · rintro j ⟨g3, g4⟩
        by_cases hj : j < nl
        · obtain ⟨r, hx, hd⟩ := get_drop (l := a.Lsas) (i := j) (by omega)
          obtain ⟨t, hy, he⟩ := get_drop (l := b.Lsas) (i := j) (by omega)
          rw [hd, he, eqW] at g4
          have w1 : IntKind.i64.wrap ((j : Int) + 1) = j + 1 := wrap_in (by omega)
          have h5 := h4 r (List.mem_of_getElem? hx) t
          clear hd he
          simp [hl, hl', hj, hx, hy, gE hx, gE hy]
          refine ⟨_, _, .inl (by simpa using h5 _), by simp, ?_⟩
          cases hs : sameL r t
          · simp [hs] at g4
            simp [g4]
          · simp [hs] at g4
            simp [w1]
            exact ⟨j + 1, ⟨by omega, g4⟩, by omega, by simp⟩
        · have e : a.Lsas.drop j = [] := List.drop_of_length_le (by omega)
          have e' : b.Lsas.drop j = [] := List.drop_of_length_le (by omega)
          rw [e, e', eqW] at g4
          have hj' : ¬ (j : Int) < nl := by omega
          simp [hl, hj', hj, g4]
end Go.Proofs.YtmgkemffbmfmpaaGreat

namespace Go.Proofs.YtmgkemffbmfmpaaGreat
open Go Go.Am

/-! The bytes of a packet's body. -/
def seenB (x : Int) : List Int := numB 4 (U x)
def keyBt (k : LKey) : List Int := numB 1 (U k.Ty) ++ numB 4 (U k.ID) ++ numB 1 (U k.Len) ++ numB 4 (U k.Router)
def cntB (n : Nat) : List Int := numB 1 (U n)
def helB (h : Hel) : List Int := numB 1 (U h.Len) ++ numB 2 (U h.Hello) ++ numB 2 (U h.Dead) ++ numB 1 (U h.Pri) ++ numB 4 (U h.DR) ++ numB 4 (U h.BDR) ++ cntB h.Seen.length
def headsB (l : List Hdr) : List Int := cntB l.length ++ (l.map hdrB).flatten
def flagsP (p : Pkt) : Int := bitP p.Init 1 + bitP p.More 2 + bitP p.Master 4
def bodyP (p : Pkt) : List Int :=
  if p.Kind = 1 then helB p.E ++ (p.E.Seen.map seenB).flatten
  else if p.Kind = 3 then cntB p.Keys.length ++ (p.Keys.map keyBt).flatten
  else if p.Kind = 4 then cntB p.Lsas.length ++ (p.Lsas.map bytesA).flatten
  else if p.Kind = 2 then numB 4 (U p.Seq) ++ numB 1 (flagsP p) ++ headsB p.Heads
  else headsB p.Heads
theorem seenB_len (x : Int) : (seenB x).length = 4 := by simp [seenB, numB_len]
theorem keyBt_len (k : LKey) : (keyBt k).length = 10 := by simp [keyBt, numB_len]
theorem cntB_len (n : Nat) : (cntB n).length = 1 := by simp [cntB, numB_len]
theorem helB_len (h : Hel) : (helB h).length = 15 := by simp [helB, numB_len, cntB]
end Go.Proofs.YtmgkemffbmfmpaaGreat

/- Packets as texts: readers and printers. -/
namespace Go.Proofs.YtmgkemffbmfmpaaGreat
open Go Go.Am

/-- What is left to read, and the first error. -/
abbrev Sr := List Int × Int
def nx (n : Nat) (s : Sr) : Int × Sr := if s.2 ≠ 0 then (0, s) else if n ≤ s.1.length then (numAt s.1 0 n, (s.1.drop n, 0)) else (0, (s.1, 3))
def andP {α β : Type} (f : Sr → α × Sr) (g : Sr → β × Sr) (s : Sr) : (α × β) × Sr := (((f s).1, (g (f s).2).1), (g (f s).2).2)
def mapP {α β : Type} (φ : α → β) (f : Sr → α × Sr) (s : Sr) : β × Sr := (φ (f s).1, (f s).2)
def manyN {α : Type} (f : Sr → α × Sr) : Nat → List α → Sr → List α × Sr
  | 0, l, s => (l, s)
  | k + 1, l, s => if (f s).2.2 ≠ 0 then ([], (f s).2) else manyN f k (l ++ [(f s).1]) (f s).2
def manyP {α : Type} (f : Sr → α × Sr) (s : Sr) : List α × Sr := manyN f (nx 1 s).1.toNat [] (nx 1 s).2

/-- A reader and a printer that belong together. -/
structure Prs {α : Type} (f : Sr → α × Sr) (pr : α → List Int) (ok : α → Prop) : Prop where
  err : ∀ s, (f s).2.2 = 0 → s.2 = 0
  isb : ∀ s, isB s.1 → isB (f s).2.1
  back : ∀ r, isB r → (f (r, 0)).2.2 = 0 → r = pr (f (r, 0)).1 ++ (f (r, 0)).2.1 ∧ ok (f (r, 0)).1
  fwd : ∀ x rest, ok x → f (pr x ++ rest, 0) = (x, (rest, 0))

theorem nx_prs (n : Nat) : Prs (nx n) (numB n) (fun x => 0 ≤ x ∧ x < 256 ^ n) := by
  constructor
  · intro s h
    unfold nx at h
    by_cases e : s.2 = 0
    · exact e
    · rw [if_pos e] at h; exact h
  · intro s h
    unfold nx
    split
    · exact h
    · split
      · exact isB_drop h n
      · exact h
  · intro r hb h
    unfold nx at h ⊢
    simp only [ne_eq, not_true_eq_false, if_false] at h ⊢
    by_cases hl : n ≤ r.length
    · rw [if_pos hl]
      refine ⟨?_, numAt_in hb 0 n⟩
      simp only
      rw [numB_numAt hb 0 n (by omega), List.drop_zero, List.take_append_drop]
    · rw [if_neg hl] at h
      simp at h
  · intro x rest hx
    unfold nx
    have e : numAt (numB n x ++ rest) 0 n = x % 256 ^ n := numAt_app [] rest n x 0 rfl
    simp only [ne_eq, not_true_eq_false, if_false, List.length_append, numB_len]
    rw [if_pos (by omega), e, Int.emod_eq_of_lt hx.1 hx.2]
    have : (numB n x ++ rest).drop n = rest := by
      rw [List.drop_append_of_le_length (by simp [numB_len]), List.drop_of_length_le (by simp [numB_len]), List.nil_append]
    rw [this]

theorem Prs.pair {α β : Type} {f : Sr → α × Sr} {g : Sr → β × Sr} {pf : α → List Int} {pg : β → List Int} {of : α → Prop} {og : β → Prop} (hf : Prs f pf of) (hg : Prs g pg og) :
    Prs (andP f g) (fun x => pf x.1 ++ pg x.2) (fun x => of x.1 ∧ og x.2) := by
  constructor
  · intro s h
    exact hf.err s (hg.err _ h)
  · intro s h
    exact hg.isb _ (hf.isb s h)
  · intro r hb h
    have h1 := hg.err _ h
    obtain ⟨b1, b2⟩ := hf.back r hb h1
    have e : (f (r, 0)).2 = ((f (r, 0)).2.1, 0) := Prod.ext rfl h1
    have hb' := hf.isb (r, 0) hb
    have h' : (g (f (r, 0)).2).2.2 = 0 := h
    rw [e] at h'
    obtain ⟨c1, c2⟩ := hg.back _ hb' h'
    simp only [andP]
    rw [e]
    refine ⟨?_, b2, c2⟩
    rw [List.append_assoc, ← c1]
    exact b1
  · rintro ⟨x, y⟩ rest ⟨h1, h2⟩
    simp only [andP]
    rw [List.append_assoc, hf.fwd x _ h1]
    simp only
    rw [hg.fwd y _ h2]

theorem Prs.iso {α β : Type} {f : Sr → α × Sr} {pf : α → List Int} {of : α → Prop} (hf : Prs f pf of) (φ : α → β) (pg : β → List Int) (og : β → Prop) (ψ : β → α)
    (h1 : ∀ x, of x → pg (φ x) = pf x ∧ og (φ x)) (h2 : ∀ y, og y → φ (ψ y) = y ∧ of (ψ y)) : Prs (mapP φ f) pg og := by
  constructor
  · intro s h; exact hf.err s h
  · intro s h; exact hf.isb s h
  · intro r hb h
    obtain ⟨b1, b2⟩ := hf.back r hb h
    simp only [mapP]
    exact ⟨by rw [(h1 _ b2).1]; exact b1, (h1 _ b2).2⟩
  · intro y rest hy
    obtain ⟨k1, k2⟩ := h2 y hy
    have e : pg y = pf (ψ y) := by rw [← (h1 _ k2).1, k1]
    simp only [mapP]
    rw [e, hf.fwd _ _ k2, k1]

theorem manyN_err {α : Type} {f : Sr → α × Sr} {pf : α → List Int} {of : α → Prop} (hf : Prs f pf of) : ∀ (k : Nat) (l : List α) (s : Sr), (manyN f k l s).2.2 = 0 → s.2 = 0
  | 0, l, s, h => h
  | k + 1, l, s, h => by
    unfold manyN at h
    split at h
    · rename_i e; exact (e h).elim
    · exact hf.err s (manyN_err hf k _ _ h)
theorem manyN_isb {α : Type} {f : Sr → α × Sr} {pf : α → List Int} {of : α → Prop} (hf : Prs f pf of) : ∀ (k : Nat) (l : List α) (s : Sr), isB s.1 → isB (manyN f k l s).2.1
  | 0, l, s, h => h
  | k + 1, l, s, h => by
    unfold manyN
    split
    · exact hf.isb s h
    · exact manyN_isb hf k _ _ (hf.isb s h)
theorem manyN_back {α : Type} {f : Sr → α × Sr} {pf : α → List Int} {of : α → Prop} (hf : Prs f pf of) : ∀ (k : Nat) (l : List α) (r : List Int), isB r → (manyN f k l (r, 0)).2.2 = 0 →
    ∃ l', l'.length = k ∧ (∀ x ∈ l', of x) ∧ (manyN f k l (r, 0)).1 = l ++ l' ∧ r = (l'.map pf).flatten ++ (manyN f k l (r, 0)).2.1
  | 0, l, r, _, _ => ⟨[], rfl, by simp, by simp [manyN], by simp [manyN]⟩
  | k + 1, l, r, hb, h => by
    unfold manyN at h ⊢
    by_cases e : (f (r, 0)).2.2 = 0
    case neg => rw [if_pos e] at h; exact (e h).elim
    rw [if_neg (by simp [e])] at h ⊢
    obtain ⟨b1, b2⟩ := hf.back r hb e
    have e2 : (f (r, 0)).2 = ((f (r, 0)).2.1, 0) := Prod.ext rfl e
    rw [e2] at h
    obtain ⟨l', c1, c2, c3, c4⟩ := manyN_back hf k _ _ (hf.isb (r, 0) hb) h
    rw [e2]
    refine ⟨(f (r, 0)).1 :: l', by simp [c1], ?_, ?_, ?_⟩
    · intro x hx
      rcases List.mem_cons.1 hx with rfl | hx
      · exact b2
      · exact c2 x hx
    · rw [c3]; simp
    · rw [List.map_cons, List.flatten_cons, List.append_assoc, ← c4]
      exact b1
theorem manyN_fwd {α : Type} {f : Sr → α × Sr} {pf : α → List Int} {of : α → Prop} (hf : Prs f pf of) : ∀ (l' l : List α) (rest : List Int), (∀ x ∈ l', of x) → manyN f l'.length l ((l'.map pf).flatten ++ rest, 0) = (l ++ l', (rest, 0))
  | [], l, rest, _ => by simp [manyN]
  | x :: l', l, rest, h => by
    have hx := hf.fwd x ((l'.map pf).flatten ++ rest) (h x (by simp))
    simp only [List.length_cons, manyN, List.map_cons, List.flatten_cons, List.append_assoc]
    rw [hx]
    simp only [ne_eq, not_true_eq_false, if_false]
    rw [manyN_fwd hf l' _ rest (fun y hy => h y (by simp [hy]))]
    simp

theorem Prs.many {α : Type} {f : Sr → α × Sr} {pf : α → List Int} {of : α → Prop} (hf : Prs f pf of) : Prs (manyP f) (fun l => cntB l.length ++ (l.map pf).flatten) (fun l => l.length < 256 ∧ ∀ x ∈ l, of x) := by
  have h1 := nx_prs 1
  constructor
  · intro s h
    exact h1.err s (manyN_err hf _ _ _ h)
  · intro s h
    exact manyN_isb hf _ _ _ (h1.isb s h)
  · intro r hb h
    have e := manyN_err hf _ _ _ h
    obtain ⟨b1, b2⟩ := h1.back r hb e
    have e2 : (nx 1 (r, 0)).2 = ((nx 1 (r, 0)).2.1, 0) := Prod.ext rfl e
    unfold manyP at h ⊢
    rw [e2] at h ⊢
    obtain ⟨l', c1, c2, c3, c4⟩ := manyN_back hf _ _ _ (h1.isb (r, 0) hb) h
    rw [c3]
    have hn : ((l'.length : Nat) : Int) = (nx 1 (r, 0)).1 := by omega
    refine ⟨?_, ?_, by simpa using c2⟩
    · simp only [List.nil_append, cntB]
      rw [hn, u64_id (by omega), List.append_assoc, ← c4]
      exact b1
    · simp only [List.nil_append]; omega
  · rintro l rest ⟨g1, g2⟩
    unfold manyP
    simp only [cntB]
    rw [u64_id (by omega), List.append_assoc, h1.fwd _ _ (by omega)]
    simp only [Int.toNat_natCast]
    rw [manyN_fwd hf l [] rest g2]
    simp
end Go.Proofs.YtmgkemffbmfmpaaGreat
