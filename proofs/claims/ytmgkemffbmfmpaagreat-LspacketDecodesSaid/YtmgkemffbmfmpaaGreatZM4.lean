import Derived.Test.YtmgkemffbmfmpaaGreatZK35
import Derived.Test.YtmgkemffbmfmpaaGreatZE2
set_option linter.unusedSimpArgs false
set_option linter.unusedVariables false
namespace Go.Proofs.YtmgkemffbmfmpaaGreat
open Go Go.Am

theorem less0 {P : Program} {f : FuncId} {args : List AVal} {H0 H : List (List AVal)} {x : AVal} {H' : List (List AVal)} (h : CFun P f args H0 x H') (hl : H0.length = H.length) (hb : LeBoxes H0.length H H0) : CFun P f args H x H' := by
  refine ⟨h.1, fun G w cargs hs h1 h2 hz hr => ?_⟩
  have hs0 : SR G H0 w := hs.weaken (s := ⟨fun _ => .undef, H⟩) (s' := ⟨fun _ => .undef, H0⟩) (LeBoxes_st hb)
  have := h.2 G w cargs hs0 h1 h2 hz (by rw [hl]; exact hr)
  refine this.mono ?_
  rintro e w' ⟨v, G', rfl, g1, g2, g3, g4, g5, g6⟩
  rw [hl] at g1 g6
  exact ⟨v, G', rfl, g1, g2, g3, g4, g5, g6⟩
def zPk : List AVal := [.int .i64 0, .int .u32 0, .int .u32 0, .int .u32 0, .int .i64 0, .int .i64 0, .int .i64 0, .int .i64 0, .int .u32 0, .int .u32 0, .sl 0 [] .full, .int .i64 0, .bool false, .bool false, .bool false, .sl 0 [] .full, .sl 0 [] .full, .sl 0 [] .full]
theorem next_Z {H : List (List AVal)} {id : Nat} {s : Sr} (hid : H[id]? = some (cellsSr s)) (ok : okSr s) (n : Nat) (hn : n ≤ 8) (Z : List (List AVal)) :
    CFun Tryz.prog 9 [.ptr id 0, .int .i64 n] (H ++ Z) (.int .u64 (nx n s).1) (H.set id (cellsSr (nx n s).2) ++ Z) := by
  have hl := (List.getElem?_eq_some_iff.1 hid).1
  have h := next_ (H := H ++ Z) (id := id) (by rw [List.getElem?_append_left hl]; exact hid) ok n hn
  rwa [List.set_append_left _ _ hl] at h
theorem rdP_pkt (p : Pkt) (s : Sr) (ok : okSr s) : CFun Tryz.prog 10 [.ptr 0 0, .ptr 1 0] [cellsSr s, cellsPk p] (.tup []) [cellsSr (rdP p s).2, cellsPk (rdP p s).1] := by
  by_cases h1 : p.Kind = 1
  · exact f107_1 p h1 s ok
  by_cases h2 : p.Kind = 2
  · exact f107_2 p h2 s ok
  by_cases h3 : p.Kind = 3
  · exact f107_3 p h3 s ok
  by_cases h4 : p.Kind = 4
  · exact f107_4 p h4 s ok
  · exact f107_5 p h1 h2 h3 h4 s ok
theorem rdP_at (c0 : List AVal) (p : Pkt) (s : Sr) (ok : okSr s) : CFun Tryz.prog 10 [.ptr 1 0, .ptr 2 0] [c0, cellsSr s, cellsPk p] (.tup []) [c0, cellsSr (rdP p s).2, cellsPk (rdP p s).1] := by
  have h := (rdP_pkt p s ok).lift (fun i => i + 1) (H := [c0, cellsSr s, cellsPk p]) (H' := [c0, cellsSr (rdP p s).2, cellsPk (rdP p s).1]) (by first | (simp; done) | (simp; intros; omega)) (by first | (simp; done) | (simp; intros; omega)) (by
    intro i cs hi
    match i, hi with
    | 0, hi => simp at hi; subst hi; simp [ren0, low0]
    | 1, hi => simp at hi; subst hi; simp [ren0, low0]) (by simp [low, low0]) (by simp) (by
    intro i cs hi
    match i, hi with
    | 0, hi => simp at hi; subst hi; simp [ren0, low0, grow]
    | 1, hi => simp at hi; subst hi; simp [ren0, low0, grow]) (by
    intro j hj hne
    match j, hj with
    | 0, _ => rfl
    | 1, _ => exact (hne 0 (by simp) rfl).elim
    | 2, _ => exact (hne 1 (by simp) rfl).elim) rfl
  simpa [ren, ren0] using h
-- lspacket.Decode
set_option maxHeartbeats 8000000 in
set_option maxRecDepth 10000 in
theorem f50 (b : List Int) (hb : isB b) (hlen : b.length ≤ 140737488355327) : CFun Tryz.prog 4 [encBs b] [] (.tup [encPk (decP b).1, .int .i64 (decP b).2]) [] := by
  refine CFun.intro (tr := [2500023, 2500026, 2500029, 900004000023, 900001000042, 900002000042, 1500042]) (fz := []) (n := 62) (rs := [.cell 2 32, .tmp 3]) Tryz.func4 rfl (by kernel_rfl) rfl rfl mixed (by kernel_rfl) (by simp) (by simp) ?_
  have h1 := fun H => (f105 b hb hlen).up' H rfl rfl
  unfold decP
  by_cases hf : frontP b = 0
  case neg =>
    simp
    refine ⟨_, _, .inl (by simpa using h1 _), by simp, ?_⟩
    simp [hf, pkt0, hel0]
  obtain ⟨f1, f2, f3, f4, f5⟩ := frontP_ok hf
  rw [if_neg (by simp [hf])]
  obtain ⟨n, hn⟩ : ∃ n, b.length = n := ⟨_, rfl⟩
  have ok0 : ∀ m, okSr (b.drop m, 0) := fun m => ⟨isB_drop hb m, by simp only [List.length_drop]; omega⟩
  have n1 := nx_at (b := b) (m := 4) (n := 4) (by omega)
  have n2 := nx_at (b := b) (m := 8) (n := 4) (by omega)
  have n3 := nx_at (b := b) (m := 12) (n := 4) (by omega)
  have n4 := nx_at (b := b) (m := 16) (n := 2) (by omega)
  have g1 := get_getD (b := b) (i := 1) (by omega)
  have w1 : IntKind.i64.wrap (b.getD 1 0) = b.getD 1 0 := wrap_in (by omega)
  have c1 := fun c0 Z => next_Z (H := [c0, cellsSr (b.drop 4, 0)]) (id := 1) rfl (ok0 4) 4 (by omega) Z
  have c2 := fun c0 Z => next_Z (H := [c0, cellsSr (b.drop 8, 0)]) (id := 1) rfl (ok0 8) 4 (by omega) Z
  have c3 := fun c0 Z => next_Z (H := [c0, cellsSr (b.drop 12, 0)]) (id := 1) rfl (ok0 12) 4 (by omega) Z
  have c4 := fun c0 c2 => next_ (H := [c0, cellsSr (b.drop 16, 0), c2]) (id := 1) rfl (ok0 16) 2 (by omega)
  rw [n1] at c1
  rw [n2] at c2
  rw [n3] at c3
  rw [n4] at c4
  have hr := fun c0 => rdP_at c0 (pkA (b.getD 1 0) (W32 (numAt b 4 4)) (W32 (numAt b 8 4)) (W32 (numAt b 12 4))) (b.drop 18, 0) (ok0 18)
  have hchk : (readP b).2.2 = 0 → ∀ H, CFun Tryz.prog 11 [encPk (readP b).1] H (.int .i64 (chkP (readP b).1)) H := fun e H => (f16 _ (rdP_ok (isB_drop hb 18) e).1).up' H rfl rfl
  have he : readP b = rdP (pkA (b.getD 1 0) (W32 (numAt b 4 4)) (W32 (numAt b 8 4)) (W32 (numAt b 12 4))) (b.drop 18, 0) := rfl
  rw [← he] at hr
  generalize readP b = q at *
  obtain ⟨p, r, e⟩ := q
  clear he n1 n2 n3 n4 ok0 f2 f3 f4
  simp only at hr hchk ⊢
  generalize b.getD 1 0 = v1 at *
  generalize numAt b 4 4 = a1 at *
  generalize numAt b 8 4 = a2 at *
  generalize numAt b 12 4 = a3 at *
  have htk : (b.map enc8).take n = b.map enc8 := List.take_of_length_le (by simp [hn])
  have h4n : 4 ≤ n := by omega
  have h4n' : (4 : Int) ≤ n := by omega
  simp
  refine ⟨_, _, .inl (by simpa using h1 _), by simp, ?_⟩
  simp [hf, hn, h4n, h4n', htk, g1, w1]
  refine ⟨_, [_, [.sl 1 ((b.map enc8).drop 8) .sh, .int .i64 0]], ⟨rfl, fun Z => by simpa using c1 _ Z⟩, by simp, ?_⟩
  simp
  refine ⟨_, [_, [.sl 1 ((b.map enc8).drop 12) .sh, .int .i64 0]], ⟨rfl, fun Z => by simpa using c2 _ Z⟩, by simp, ?_⟩
  simp
  refine ⟨_, [_, [.sl 1 ((b.map enc8).drop 16) .sh, .int .i64 0]], ⟨rfl, fun Z => by simpa using c3 _ Z⟩, by simp, ?_⟩
  simp
  refine ⟨_, _, .inl (by simpa using c4 _ _), by simp, ?_⟩
  simp
  refine ⟨_, _, .inl (less0 (hr zPk) rfl (by simp [pkA, pkt0, hel0, W32, zPk, All2, LeC])), by simp [zPk], ?_⟩
  simp only [zPk]
  by_cases he : e = 0
  case neg =>
    simp [he, pkt0, hel0]
  by_cases hr0 : r = []
  case neg =>
    have hr1 : 0 < r.length := List.length_pos_iff.2 hr0
    simp [he, hr0, hr1, pkt0, hel0]
  have h16 := hchk he
  simp [he, hr0]
  refine ⟨_, _, .inl (by simpa using h16 _), by simp, ?_⟩
  by_cases hc : chkP p = 0
  · simp [hc]
  · simp [hc, pkt0, hel0]
end Go.Proofs.YtmgkemffbmfmpaaGreat

namespace Go.Proofs.YtmgkemffbmfmpaaGreat
open Go Go.Am
set_option linter.unusedSimpArgs false

set_option maxHeartbeats 4000000 in
set_option maxRecDepth 10000 in
theorem c39 (b : List Int) (hb : isB b) (hlen : b.length < 281474976710656) : CFun Tryz.prog 64 [encBs b] [] (.tup [encA (decL b).1, .int .i64 (decL b).2.1, .int .i64 (decL b).2.2]) [] := by
  refine CFun.intro (tr := [900001000036]) (fz := []) (n := 55) (rs := [.cell 2 65, .tmp 3, .tmp 4]) Tryz.func64 rfl (by kernel_rfl) rfl rfl mixed (by kernel_rfl) (by simp) (by simp) ?_
  obtain ⟨m, hm⟩ : ∃ m, b.length = m := ⟨_, rfl⟩
  have hc : (b.length : Int) = m := by omega
  by_cases d1 : m < 20
  · have d1' : (m : Int) < 20 := by omega
    simp [hc, d1', decL, hm, d1, lsa0]
  have d1' : ¬ (m : Int) < 20 := by omega
  have h72 := fun H => (c72 b hb (by omega)).up' H rfl rfl
  have hn := numAt_in hb 18 2
  have hu := fun at_ n H h1 h2 => u75 (b := b) at_ n H hb (by omega) h1 h2
  obtain ⟨k, hk⟩ : ∃ k : Nat, numAt b 18 2 = k := ⟨(numAt b 18 2).toNat, by omega⟩
  have w0 : IntKind.i64.wrap (k : Int) = k := wrap_in (by omega)
  have w1 : IntKind.i64.wrap (20 + (k : Int)) = 20 + k := wrap_in (by omega)
  have h48 := fun n lo hi H => (c48 n lo hi).up' H rfl rfl
  have hB : bodyAt b = (b.take (20 + k)).drop 20 := by rw [bodyAt, hk, Int.toNat_natCast]
  have hBb : isB (bodyAt b) := isB_bodyAt hb
  have hBl : (bodyAt b).length < 281474976710656 := by rw [hB]; simp; omega
  have h76 := fun ht => c76 (hdrAt b) ht (bodyAt b) hBb hBl
  have hD : decL b = if inR (hdrAt b).Ty 1 5 = false then (lsa0, 0, 15) else
    if m < 20 + k then (lsa0, 0, 3) else
    if formB (hdrAt b) (bodyAt b) = false then (lsa0, 0, 2) else
    if chkA (bodyR (hdrAt b) (bodyAt b)) ≠ 0 then (lsa0, 0, chkA (bodyR (hdrAt b) (bodyAt b))) else
    if (bodyR (hdrAt b) (bodyAt b)).H.Sum ≠ sumA (bodyR (hdrAt b) (bodyAt b)) then (lsa0, 0, 13) else
    (bodyR (hdrAt b) (bodyAt b), 20 + k, 0) := by rw [decL, hm, if_neg d1, hk, Int.toNat_natCast]
  rw [hD]
  have hL : chkA (bodyR (hdrAt b) (bodyAt b)) = 0 → (bodyR (hdrAt b) (bodyAt b)).Links.length ≤ 64 ∧ (bodyR (hdrAt b) (bodyAt b)).Att.length ≤ 64 := chkA_len
  have okl : okA (bodyR (hdrAt b) (bodyAt b)) := okA_bodyR (okH_hdrAt b) hBb
  have h14 := fun H => (c14 (bodyR (hdrAt b) (bodyAt b)) okl).up' H rfl rfl
  have h22 := fun h1 h2 H => (c22 (bodyR (hdrAt b) (bodyAt b)) h1 h2).up' H rfl rfl
  have hgb : formB (hdrAt b) (bodyAt b) = true → gbR (hdrAt b) (bodyAt b) = bodyR (hdrAt b) (bodyAt b) := fun h => by rw [gbR, if_pos h]
  clear okl
  generalize formB (hdrAt b) (bodyAt b) = fo at h76 hgb ⊢
  generalize bodyR (hdrAt b) (bodyAt b) = l at hgb h14 h22 hL ⊢
  generalize gbR (hdrAt b) (bodyAt b) = g at h76 hgb
  simp [hc, d1']
  refine ⟨_, _, .inl (h72 _), by simp, ?_⟩
  simp
  refine ⟨_, _, .inl (h48 _ _ _ _), by simp, ?_⟩
  by_cases d2 : inR (hdrAt b).Ty 1 5 = false
  · simp [d2, lsa0]
  have d2' : inR (hdrAt b).Ty 1 5 = true := by simpa using d2
  simp [d2']
  refine ⟨_, _, .inl (hu 18 2 _ (by omega) (by omega)), by simp, ?_⟩
  rw [hk]
  by_cases d3 : m < 20 + k
  · have d3' : (m : Int) < 20 + k := by omega
    simp [hc, w0, w1, d3', d3, lsa0]
  have d3' : ¬ (m : Int) < 20 + k := by omega
  have d4 : (20 : Int) ≤ 20 + k := by omega
  have d5 : 20 + k ≤ m := by omega
  have d6 : (20 : Int) + k ≤ m := by omega
  have d7 : ((20 : Int) + k).toNat = 20 + k := by omega
  have d8 : (0 : Int) ≤ 20 + k := by omega
  have hs := enc_sub b (20 + k)
  rw [← hB] at hs
  simp [w0, w1, hc, hm, d3', d3, d4, d5, d6, d7, d8, hs, -List.map_take, -List.map_drop]
  refine ⟨_, h76 ((inR_iff _ _ _).1 d2'), by simp [noid, noid0], ?_⟩
  cases fo with
  | false => simp [lsa0]
  | true =>
    have hg := hgb rfl
    subst hg
    simp
    refine ⟨_, _, .inl (h14 _), by simp, ?_⟩
    by_cases d9 : chkA g = 0
    · obtain ⟨l1, l2⟩ := hL d9
      simp [d9]
      refine ⟨_, _, .inl (h22 l1 l2 _), by simp, ?_⟩
      by_cases e9 : g.H.Sum = sumA g
      · simp [e9, w1]
      · simp [e9, lsa0]
    · simp [d9, lsa0]
end Go.Proofs.YtmgkemffbmfmpaaGreat

/- The reference's reading of a packet: places in bytes; it answers as the program's reading. -/
namespace Go.Proofs.YtmgkemffbmfmpaaGreat
open Go Go.Am

/-- A place in bytes, and the first error. -/
abbrev Ey := Nat × Int
def nmE (b : List Int) (n : Nat) (y : Ey) : Int × Ey := if y.2 ≠ 0 then (0, y) else if y.1 + n ≤ b.length then (numAt b y.1 n, (y.1 + n, 0)) else (0, (y.1, 3))
def ndE {α β : Type} (f : Ey → α × Ey) (g : Ey → β × Ey) (y : Ey) : (α × β) × Ey := (((f y).1, (g (f y).2).1), (g (f y).2).2)
def mpE {α β : Type} (φ : α → β) (f : Ey → α × Ey) (y : Ey) : β × Ey := (φ (f y).1, (f y).2)
def manyE {α : Type} (G : Ey → α × Ey) : Nat → List α → Ey → List α × Ey
  | 0, l, y => (l, y)
  | k + 1, l, y => if y.2 ≠ 0 then (l, y) else manyE G k (l ++ [(G y).1]) (G y).2
def manyF {α : Type} (b : List Int) (G : Ey → α × Ey) (y : Ey) : List α × Ey := manyE G (nmE b 1 y).1.toNat [] (nmE b 1 y).2
def flE (b : List Int) (y : Ey) : (Bool × Bool × Bool) × Ey := (bits3 (nmE b 1 y).1, if 7 < (nmE b 1 y).1 then ((nmE b 1 y).2.1, 2) else (nmE b 1 y).2)
def hdE (b : List Int) (y : Ey) : Hdr × Ey := ((decH (b.drop y.1)).1, (y.1 + 18, (decH (b.drop y.1)).2))
def lsE (b : List Int) (y : Ey) : Lsa × Ey := ((decL (b.drop y.1)).1, (y.1 + (decL (b.drop y.1)).2.1, (decL (b.drop y.1)).2.2))
def kyE (b : List Int) : Ey → LKey × Ey := mpE (fun x => ⟨x.1, x.2.1, x.2.2.1, x.2.2.2⟩) (ndE (mpE I64 (nmE b 1)) (ndE (mpE W32 (nmE b 4)) (ndE (mpE I64 (nmE b 1)) (mpE W32 (nmE b 4)))))
def heE (b : List Int) : Ey → Hel × Ey := mpE (fun x => ⟨x.1, x.2.1, x.2.2.1, x.2.2.2.1, x.2.2.2.2.1, x.2.2.2.2.2.1, x.2.2.2.2.2.2⟩)
  (ndE (mpE I64 (nmE b 1)) (ndE (mpE I64 (nmE b 2)) (ndE (mpE I64 (nmE b 2)) (ndE (mpE I64 (nmE b 1)) (ndE (mpE W32 (nmE b 4)) (ndE (mpE W32 (nmE b 4)) (manyF b (mpE W32 (nmE b 4)))))))))
def dbE (b : List Int) : Ey → (Int × (Bool × Bool × Bool) × List Hdr) × Ey := ndE (mpE I64 (nmE b 4)) (ndE (flE b) (manyF b (hdE b)))
def rdE (b : List Int) (p : Pkt) (y : Ey) : Pkt × Ey :=
  if p.Kind = 1 then ({ p with E := (heE b y).1 }, (heE b y).2)
  else if p.Kind = 2 then ({ p with Seq := (dbE b y).1.1, Init := (dbE b y).1.2.1.1, More := (dbE b y).1.2.1.2.1, Master := (dbE b y).1.2.1.2.2, Heads := (dbE b y).1.2.2 }, (dbE b y).2)
  else if p.Kind = 3 then ({ p with Keys := (manyF b (kyE b) y).1 }, (manyF b (kyE b) y).2)
  else if p.Kind = 4 then ({ p with Lsas := (manyF b (lsE b) y).1 }, (manyF b (lsE b) y).2)
  else ({ p with Heads := (manyF b (hdE b) y).1 }, (manyF b (hdE b) y).2)

/-- The same place. -/
def simE (b : List Int) (y : Ey) (s : Sr) : Prop := y.2 = s.2 ∧ (y.2 = 0 → s.1 = b.drop y.1 ∧ y.1 ≤ b.length) ∧ y.1 ≤ b.length + 18
def SimF {α : Type} (b : List Int) (f : Ey → α × Ey) (f' : Sr → α × Sr) : Prop := ∀ y s, simE b y s → simE b (f y).2 (f' s).2 ∧ ((f y).2.2 = 0 → (f y).1 = (f' s).1)
/-- The same, where nothing has gone wrong before. -/
def SimO {α : Type} (b : List Int) (f : Ey → α × Ey) (f' : Sr → α × Sr) : Prop := ∀ y s, simE b y s → y.2 = 0 → simE b (f y).2 (f' s).2 ∧ ((f y).2.2 = 0 → (f y).1 = (f' s).1)
section
variable {b : List Int}
theorem SimF.o {α : Type} {f : Ey → α × Ey} {f' : Sr → α × Sr} (h : SimF b f f') : SimO b f f' := fun y s hs _ => h y s hs
theorem nm_sim (n : Nat) (y : Ey) (s : Sr) (h : simE b y s) : simE b (nmE b n y).2 (nx n s).2 ∧ (nmE b n y).1 = (nx n s).1 := by
  obtain ⟨at_, e⟩ := y
  obtain ⟨r, e'⟩ := s
  obtain ⟨h1, h2, h3⟩ := h
  simp only at h1 h2 h3
  subst h1
  by_cases he : e = 0
  · obtain ⟨rfl, h4⟩ := h2 he
    subst he
    unfold nmE nx
    simp only [ne_eq, not_true_eq_false, if_false, List.length_drop]
    by_cases hn : at_ + n ≤ b.length
    · rw [if_pos hn, if_pos (by omega), numAt_drop]
      exact ⟨⟨rfl, fun _ => ⟨by simp [List.drop_drop], by simpa using hn⟩, by simp only; omega⟩, rfl⟩
    · rw [if_neg hn, if_neg (by omega)]
      exact ⟨⟨rfl, fun h => by simp at h, h3⟩, rfl⟩
  · unfold nmE nx
    simp only [ne_eq, he, not_false_eq_true, if_true]
    exact ⟨⟨rfl, fun h => (he h).elim, h3⟩, trivial⟩
theorem sim_nm (n : Nat) : SimF b (nmE b n) (nx n) := fun y s h => ⟨(nm_sim n y s h).1, fun _ => (nm_sim n y s h).2⟩
theorem sim_map {α β : Type} {f : Ey → α × Ey} {f' : Sr → α × Sr} (φ : α → β) (h : SimF b f f') : SimF b (mpE φ f) (mapP φ f') := fun y s hs => by
  obtain ⟨h1, h2⟩ := h y s hs
  exact ⟨h1, fun e => by simp only [mpE, mapP]; rw [h2 e]⟩
theorem sim_and {α β : Type} {f : Ey → α × Ey} {f' : Sr → α × Sr} {g : Ey → β × Ey} {g' : Sr → β × Sr} (hf : SimF b f f') (hg : SimF b g g') (he : ∀ s, (g' s).2.2 = 0 → s.2 = 0) : SimF b (ndE f g) (andP f' g') := fun y s hs => by
  obtain ⟨h1, h2⟩ := hf y s hs
  obtain ⟨h3, h4⟩ := hg _ _ h1
  refine ⟨h3, fun e => ?_⟩
  simp only [ndE, andP] at e ⊢
  rw [h4 e, h2 (by rw [h1.1]; exact he _ (by rw [← h3.1]; exact e))]
theorem manyE_err {α : Type} {G : Ey → α × Ey} {y : Ey} (h : y.2 ≠ 0) : ∀ (k : Nat) (l : List α), manyE G k l y = (l, y)
  | 0, l => rfl
  | k + 1, l => by unfold manyE; rw [if_pos h]
theorem many_sim {α : Type} {G : Ey → α × Ey} {f : Sr → α × Sr} (hG : SimO b G f) : ∀ (k : Nat) (l : List α) (y : Ey) (s : Sr), simE b y s → (y.2 = 0 ∨ k = 0) →
    simE b (manyE G k l y).2 (manyN f k l s).2 ∧ ((manyE G k l y).2.2 = 0 → (manyE G k l y).1 = (manyN f k l s).1)
  | 0, l, y, s, h, _ => ⟨h, fun _ => rfl⟩
  | k + 1, l, y, s, h, hz => by
    have h0 : y.2 = 0 := by
      rcases hz with h | h
      · exact h
      · omega
    obtain ⟨h1, h2⟩ := hG y s h h0
    unfold manyE manyN
    rw [if_neg (by simp [h0])]
    by_cases e : (f s).2.2 = 0
    · have e' : (G y).2.2 = 0 := by rw [h1.1]; exact e
      rw [if_neg (by simp [e]), h2 e']
      exact many_sim hG k _ _ _ h1 (.inl e')
    · have e' : (G y).2.2 ≠ 0 := by rw [h1.1]; exact e
      rw [if_pos e, manyE_err e']
      exact ⟨h1, fun h => (e' h).elim⟩
theorem sim_many {α : Type} {G : Ey → α × Ey} {f : Sr → α × Sr} (hG : SimO b G f) : SimF b (manyF b G) (manyP f) := fun y s h => by
  obtain ⟨h1, h2⟩ := nm_sim 1 y s h
  unfold manyF manyP
  rw [← h2]
  refine many_sim hG _ _ _ _ h1 ?_
  unfold nmE
  split
  · exact .inr rfl
  · split
    · exact .inl rfl
    · exact .inr rfl
theorem sim_fl : SimF b (flE b) flP := fun y s h => by
  obtain ⟨h1, h2⟩ := nm_sim 1 y s h
  unfold flE flP
  simp only
  rw [← h2]
  refine ⟨?_, fun _ => rfl⟩
  split
  · exact ⟨rfl, fun h => by simp at h, h1.2.2⟩
  · exact h1
theorem sim_hd : SimO b (hdE b) hdP := fun y s h h0 => by
  obtain ⟨at_, e⟩ := y
  obtain ⟨r, e'⟩ := s
  obtain ⟨h1, h2, h3⟩ := h
  simp only at h0 h1 h2 h3
  subst h0 h1
  obtain ⟨rfl, h4⟩ := h2 rfl
  unfold hdE hdP
  simp only [ne_eq, not_true_eq_false, if_false]
  by_cases e : (decH (b.drop at_)).2 = 0
  · rw [if_neg (by simp [e])]
    obtain ⟨g1, _⟩ := decH_ok e
    rw [List.length_drop] at g1
    exact ⟨⟨e, fun _ => ⟨by simp [List.drop_drop], by simp only; omega⟩, by simp only; omega⟩, fun _ => rfl⟩
  · rw [if_pos e]
    exact ⟨⟨rfl, fun h => (e h).elim, by simp only; omega⟩, fun _ => rfl⟩
theorem sim_ls (hb : isB b) : SimO b (lsE b) lsP := fun y s h h0 => by
  obtain ⟨at_, e⟩ := y
  obtain ⟨r, e'⟩ := s
  obtain ⟨h1, h2, h3⟩ := h
  simp only at h0 h1 h2 h3
  subst h0 h1
  obtain ⟨rfl, h4⟩ := h2 rfl
  unfold lsE lsP
  simp only [ne_eq, not_true_eq_false, if_false]
  have hl := decL_le (isB_drop hb at_)
  rw [List.length_drop] at hl
  exact ⟨⟨rfl, fun _ => ⟨by simp [List.drop_drop], by simp only; omega⟩, by simp only; omega⟩, fun _ => trivial⟩
theorem nxI_err (n : Nat) : ∀ s, (mapP I64 (nx n) s).2.2 = 0 → s.2 = 0 := fun s h => (nx_prs n).err s h
theorem nxW_err (n : Nat) : ∀ s, (mapP W32 (nx n) s).2.2 = 0 → s.2 = 0 := fun s h => (nx_prs n).err s h
theorem and_err {α β : Type} {f : Sr → α × Sr} {g : Sr → β × Sr} (hf : ∀ s, (f s).2.2 = 0 → s.2 = 0) (hg : ∀ s, (g s).2.2 = 0 → s.2 = 0) : ∀ s, (andP f g s).2.2 = 0 → s.2 = 0 := fun s h => hf s (hg _ h)
theorem sim_ky : SimF b (kyE b) kyP :=
  sim_map _ (sim_and (sim_map _ (sim_nm 1)) (sim_and (sim_map _ (sim_nm 4)) (sim_and (sim_map _ (sim_nm 1)) (sim_map _ (sim_nm 4)) (nxW_err 4)) (and_err (nxI_err 1) (nxW_err 4))) (and_err (nxW_err 4) (and_err (nxI_err 1) (nxW_err 4))))
theorem sim_he : SimF b (heE b) helP := by
  have m0 := (nxW_prs.many).err
  have m1 := and_err (nxW_err 4) m0
  have m2 := and_err (nxW_err 4) m1
  have m3 := and_err (nxI_err 1) m2
  have m4 := and_err (nxI_err 2) m3
  have m5 := and_err (nxI_err 2) m4
  exact sim_map _ (sim_and (sim_map _ (sim_nm 1)) (sim_and (sim_map _ (sim_nm 2)) (sim_and (sim_map _ (sim_nm 2)) (sim_and (sim_map _ (sim_nm 1)) (sim_and (sim_map _ (sim_nm 4)) (sim_and (sim_map _ (sim_nm 4)) (sim_many (sim_map _ (sim_nm 4)).o) m0) m1) m2) m3) m4) m5)
theorem sim_db : SimF b (dbE b) dbP :=
  sim_and (sim_map _ (sim_nm 4)) (sim_and sim_fl (sim_many sim_hd) hdP_prs.many.err) (and_err flP_prs.err hdP_prs.many.err)
theorem sim_rd (hb : isB b) (p : Pkt) : SimF b (rdE b p) (rdP p) := fun y s h => by
  unfold rdE rdP
  by_cases h1 : p.Kind = 1
  · rw [if_pos h1, if_pos h1]
    obtain ⟨k1, k2⟩ := sim_he y s h
    exact ⟨k1, fun e => by rw [k2 e]⟩
  rw [if_neg h1, if_neg h1]
  by_cases h2 : p.Kind = 2
  · rw [if_pos h2, if_pos h2]
    obtain ⟨k1, k2⟩ := sim_db y s h
    exact ⟨k1, fun e => by rw [k2 e]⟩
  rw [if_neg h2, if_neg h2]
  by_cases h3 : p.Kind = 3
  · rw [if_pos h3, if_pos h3]
    obtain ⟨k1, k2⟩ := sim_many sim_ky.o y s h
    exact ⟨k1, fun e => by rw [k2 e]⟩
  rw [if_neg h3, if_neg h3]
  by_cases h4 : p.Kind = 4
  · rw [if_pos h4, if_pos h4]
    obtain ⟨k1, k2⟩ := sim_many (sim_ls hb) y s h
    exact ⟨k1, fun e => by rw [k2 e]⟩
  rw [if_neg h4, if_neg h4]
  obtain ⟨k1, k2⟩ := sim_many sim_hd y s h
  exact ⟨k1, fun e => by rw [k2 e]⟩
/-- What the reference has read. -/
def reE (b : List Int) : Pkt × Ey := rdE b (pkA (b.getD 1 0) (W32 (numAt b 4 4)) (W32 (numAt b 8 4)) (W32 (numAt b 12 4))) (18, 0)
theorem reE_rd (hb : isB b) (h18 : 18 ≤ b.length) : (reE b).2.2 = (readP b).2.2 ∧ ((reE b).2.2 = 0 → (reE b).1 = (readP b).1 ∧ ((reE b).2.1 = b.length ↔ (readP b).2.1 = []) ∧ (reE b).2.1 ≤ b.length) ∧ (reE b).2.1 ≤ b.length + 18 := by
  obtain ⟨⟨k1, k2, k3⟩, k4⟩ := sim_rd hb (pkA (b.getD 1 0) (W32 (numAt b 4 4)) (W32 (numAt b 8 4)) (W32 (numAt b 12 4))) (18, 0) (b.drop 18, 0) ⟨rfl, fun _ => ⟨rfl, h18⟩, by simp only; omega⟩
  refine ⟨k1, fun e => ⟨k4 e, ?_, (k2 e).2⟩, k3⟩
  obtain ⟨g1, g2⟩ := k2 e
  have g1' : (readP b).2.1 = b.drop (reE b).2.1 := g1
  have g2' : (reE b).2.1 ≤ b.length := g2
  rw [g1', List.drop_eq_nil_iff]
  omega
end
end Go.Proofs.YtmgkemffbmfmpaaGreat

/- The reference's reading of a packet: numbers, keys, headers. -/
namespace Go.Proofs.YtmgkemffbmfmpaaGreat
open Go Go.Am

@[simp] def cellsEy (b : List Int) (y : Ey) : List AVal := [encBs b, .int .i64 y.1, .int .i64 y.2]
@[simp] def encEy (b : List Int) (y : Ey) : AVal := .agg (cellsEy b y)
def okEy (b : List Int) (y : Ey) : Prop := y.1 ≤ b.length + 18 ∧ (y.2 = 0 → y.1 ≤ b.length)
def zEy : List AVal := [.sl 0 [] .full, .int .i64 0, .int .i64 0]
theorem nm_okE {b : List Int} {y : Ey} (h : okEy b y) (n : Nat) : okEy b (nmE b n y).2 := by
  unfold nmE
  obtain ⟨h1, h2⟩ := h
  split
  · exact ⟨h1, h2⟩
  · split
    · exact ⟨by simp only; omega, fun _ => by simp only; omega⟩
    · exact ⟨h1, fun e => by simp at e⟩
theorem nmE_in {b : List Int} (hb : isB b) (n : Nat) (y : Ey) : 0 ≤ (nmE b n y).1 ∧ (nmE b n y).1 < 256 ^ n := by
  have hp : (0 : Int) < 256 ^ n := Int.pow_pos (by omega)
  unfold nmE
  split
  · exact ⟨Int.le_refl _, hp⟩
  · split
    · exact numAt_in hb y.1 n
    · exact ⟨Int.le_refl _, hp⟩
-- routingref24.num
set_option maxHeartbeats 2000000 in
set_option maxRecDepth 10000 in
theorem num48 (b : List Int) (hb : isB b) (hlen : b.length < 140737488355328) (y : Ey) (hy : okEy b y) (n : Nat) (hn : n ≤ 8) : CFun Tryz.prog 48 [encEy b y, .int .i64 n] [] (.tup [.int .u64 (nmE b n y).1, encEy b (nmE b n y).2]) [] := by
  refine CFun.intro (tr := [900001000024, 900002000024, 2500024, 900001000036, 900002000036, 2500036]) (fz := []) (n := 38) (rs := [.tmp 4, .cell 5 53]) Tryz.func48 rfl (by kernel_rfl) rfl rfl mixed (by kernel_rfl) (by simp) (by simp) ?_
  obtain ⟨at_, e⟩ := y
  obtain ⟨m, hm⟩ : ∃ m, b.length = m := ⟨_, rfl⟩
  have hc : (b.length : Int) = m := by omega
  obtain ⟨hy1, hy2⟩ := hy
  simp only at hy1 hy2
  unfold nmE
  by_cases he : e = 0
  case neg => simp [he]
  have hat := hy2 he
  have w1 : IntKind.i64.wrap ((m : Int) - at_) = m - at_ := wrap_in (by omega)
  by_cases h : at_ + n ≤ m
  · have d1 : ¬ (m : Int) - at_ < n := by omega
    have w2 : IntKind.i64.wrap ((at_ : Int) + n) = at_ + n := wrap_in (by omega)
    have h12 := fun H => (c75 b hb (by omega) at_ n (by omega) hn).up' H rfl rfl
    simp [he, hm, hc, w1, d1, h]
    refine ⟨_, _, .inl (by simpa using h12 _), by simp, ?_⟩
    simp [hm, hc, w2]
  · have d1 : (m : Int) - at_ < n := by omega
    simp [he, hm, hc, w1, d1, h]
theorem up48 {b : List Int} (hb : isB b) (hlen : b.length < 140737488355328) {y : Ey} (hy : okEy b y) (n : Nat) (hn : n ≤ 8) (H : List (List AVal)) : CFun Tryz.prog 48 [encEy b y, .int .i64 n] H (.tup [.int .u64 (nmE b n y).1, encEy b (nmE b n y).2]) H :=
  (num48 b hb hlen y hy n hn).up' H rfl rfl
theorem manyE_step {α : Type} {G : Ey → α × Ey} {k : Nat} {l : List α} {y : Ey} (h : y.2 = 0) : manyE G (k + 1) l y = manyE G k (l ++ [(G y).1]) (G y).2 := by
  conv => lhs; unfold manyE
  rw [if_neg (by simp [h])]
end Go.Proofs.YtmgkemffbmfmpaaGreat

/- The reference's reading of a packet: headers. -/
namespace Go.Proofs.YtmgkemffbmfmpaaGreat
open Go Go.Am

-- routingref24.headers
set_option maxHeartbeats 8000000 in
set_option maxRecDepth 10000 in
theorem hds49 (b : List Int) (hb : isB b) (hlen : b.length < 140737488355328) (y : Ey) (hy : okEy b y) : CFun Tryz.prog 49 [encEy b y] [] (.tup [.sl 7 ((manyF b (hdE b) y).1.map encH) .sh, encEy b (manyF b (hdE b) y).2]) [] := by
  refine CFun.intro (tr := [41, 900001000045, 900002000045, 2500045]) (fz := []) (n := 47) (rs := [.tmp 2, .cell 3 53]) Tryz.func49 rfl (by kernel_rfl) rfl rfl mixed (by kernel_rfl) (by simp) (by simp) ?_
  have h1 := up48 hb hlen hy 1 (by omega)
  have k1 := nm_okE hy 1
  have hin := nmE_in hb 1 y
  unfold manyF
  obtain ⟨⟨v, y0⟩, hr⟩ : ∃ r, nmE b 1 y = r := ⟨_, rfl⟩
  rw [hr] at h1 k1 hin ⊢
  simp only at h1 k1 hin ⊢
  clear hr hy
  obtain ⟨c, rfl⟩ : ∃ c : Nat, v = c := ⟨v.toNat, by omega⟩
  rw [Int.toNat_natCast]
  have hc : c < 256 := by omega
  obtain ⟨M, hM⟩ : ∃ M, manyE (hdE b) c [] y0 = M := ⟨_, rfl⟩
  rw [hM]
  obtain ⟨m, hm⟩ : ∃ m, b.length = m := ⟨_, rfl⟩
  have hcm : (b.length : Int) = m := by omega
  simp
  refine ⟨_, _, .inl (by simpa using h1 _), by simp, ?_⟩
  simp
  refine LoopK.intro (tr := [41, 900001000045, 900002000045, 2500045]) mixed (by kernel_rfl) (fun q : Nat × List Hdr × Ey => [(3, .ptr 1 0), (4, .sl 7 (q.2.1.map encH) .own), (5, .int .u64 c), (6, .ptr 2 0), (7, .int .u64 q.1)]) (fun q => [[], zEy, cellsEy b q.2.2])
    (fun q => q.1 ≤ c ∧ q.2.1.length = q.1 ∧ okEy b q.2.2 ∧ manyE (hdE b) (c - q.1) q.2.1 q.2.2 = M) (fun q => c - q.1) (0, [], y0) ?_ ?_ ?_
  · exact ⟨by omega, rfl, k1, by simpa using hM⟩
  · simp [zEy]
  · rintro ⟨i, l, at_, e⟩ ⟨g1, g2, g3, g4⟩
    simp only at g1 g2 g3 g4
    by_cases hi : i < c
    case neg =>
      have : i = c := by omega
      subst this
      rw [Nat.sub_self] at g4
      simp only [manyE] at g4
      subst g4
      simp [zEy]
    by_cases he : e = 0
    case neg =>
      rw [manyE_err (y := (at_, e)) he] at g4
      subst g4
      simp [hi, he, zEy]
    subst he
    have hat : at_ ≤ m := by have := g3.2 rfl; simp only at this; omega
    have hat' : (at_ : Int) ≤ m := by omega
    have u1 : IntKind.u64.wrap ((i : Int) + 1) = i + 1 := by rw [wrap_u64]; omega
    have w1 : IntKind.i64.wrap ((at_ : Int) + 18) = (at_ : Int) + 18 := wrap_in (by omega)
    have h2 := fun H => (c37 (b.drop at_) (isB_drop hb at_) (by simp; omega)).up' H rfl rfl
    have htk : (b.map enc8).take m = b.map enc8 := List.take_of_length_le (by simp [hm])
    have s1 : l.length + 1 ≤ 140737488355328 := by omega
    have s2 : (l.length + 1) * 56 ≤ 140737488355328 := by omega
    have s3 : i + 1 ≤ 140737488355328 := by omega
    have s4 : (i + 1) * 56 ≤ 140737488355328 := by omega
    have hs : manyE (hdE b) (c - (i + 1)) (l ++ [(decH (b.drop at_)).1]) (at_ + 18, (decH (b.drop at_)).2) = M := by
      rw [show c - i = (c - (i + 1)) + 1 by omega, manyE_step rfl] at g4
      exact g4
    have hok : okEy b (at_ + 18, (decH (b.drop at_)).2) := by
      refine ⟨by simp only; omega, fun e => ?_⟩
      obtain ⟨q1, _⟩ := decH_ok e
      rw [List.length_drop] at q1
      simp only; omega
    clear g4 g3 hM
    generalize decH (b.drop at_) = d at *
    simp [hi, hm, hcm, hat, hat', htk]
    refine ⟨_, _, .inl (by simpa using h2 _), by simp, ?_⟩
    simp [hm, hcm, w1, u1, s1, s2, s3, s4, g2]
    exact ⟨i + 1, l ++ [d.1], at_ + 18, d.2, ⟨by omega, by simp [g2], hok, hs⟩, by omega, by simp [zEy]⟩
end Go.Proofs.YtmgkemffbmfmpaaGreat

/- The reference's reading of a packet: advertisements. -/
namespace Go.Proofs.YtmgkemffbmfmpaaGreat
open Go Go.Am

-- routingref24.getLSAs
set_option maxHeartbeats 8000000 in
set_option maxRecDepth 10000 in
theorem lsa47 (b : List Int) (hb : isB b) (hlen : b.length < 140737488355328) (y : Ey) (hy : okEy b y) : CFun Tryz.prog 47 [encEy b y] [] (.tup [.sl 15 ((manyF b (lsE b) y).1.map encA) .sh, encEy b (manyF b (lsE b) y).2]) [] := by
  refine CFun.intro (tr := [44, 900001000048, 900002000048, 2500048]) (fz := []) (n := 50) (rs := [.tmp 2, .cell 3 53]) Tryz.func47 rfl (by kernel_rfl) rfl rfl mixed (by kernel_rfl) (by simp) (by simp) ?_
  have h1 := up48 hb hlen hy 1 (by omega)
  have k1 := nm_okE hy 1
  have hin := nmE_in hb 1 y
  unfold manyF
  obtain ⟨⟨v, y0⟩, hr⟩ : ∃ r, nmE b 1 y = r := ⟨_, rfl⟩
  rw [hr] at h1 k1 hin ⊢
  simp only at h1 k1 hin ⊢
  clear hr hy
  obtain ⟨c, rfl⟩ : ∃ c : Nat, v = c := ⟨v.toNat, by omega⟩
  rw [Int.toNat_natCast]
  have hc : c < 256 := by omega
  obtain ⟨M, hM⟩ : ∃ M, manyE (lsE b) c [] y0 = M := ⟨_, rfl⟩
  rw [hM]
  obtain ⟨m, hm⟩ : ∃ m, b.length = m := ⟨_, rfl⟩
  have hcm : (b.length : Int) = m := by omega
  simp
  refine ⟨_, _, .inl (by simpa using h1 _), by simp, ?_⟩
  simp
  refine LoopK.intro (tr := [44, 900001000048, 900002000048, 2500048]) mixed (by kernel_rfl) (fun q : Nat × List Lsa × Ey => [(3, .ptr 1 0), (4, .sl 15 (q.2.1.map encA) .own), (5, .int .u64 c), (6, .ptr 2 0), (7, .int .u64 q.1)]) (fun q => [[], zEy, cellsEy b q.2.2])
    (fun q => q.1 ≤ c ∧ q.2.1.length = q.1 ∧ okEy b q.2.2 ∧ manyE (lsE b) (c - q.1) q.2.1 q.2.2 = M) (fun q => c - q.1) (0, [], y0) ?_ ?_ ?_
  · exact ⟨by omega, rfl, k1, by simpa using hM⟩
  · simp [zEy]
  · rintro ⟨i, l, at_, e⟩ ⟨g1, g2, g3, g4⟩
    simp only at g1 g2 g3 g4
    by_cases hi : i < c
    case neg =>
      have : i = c := by omega
      subst this
      rw [Nat.sub_self] at g4
      simp only [manyE] at g4
      subst g4
      simp [zEy]
    by_cases he : e = 0
    case neg =>
      rw [manyE_err (y := (at_, e)) he] at g4
      subst g4
      simp [hi, he, zEy]
    subst he
    have hat : at_ ≤ m := by have := g3.2 rfl; simp only at this; omega
    have hat' : (at_ : Int) ≤ m := by omega
    have hl := decL_le (isB_drop hb at_)
    rw [List.length_drop] at hl
    have u1 : IntKind.u64.wrap ((i : Int) + 1) = i + 1 := by rw [wrap_u64]; omega
    have w1 : IntKind.i64.wrap ((at_ : Int) + (decL (b.drop at_)).2.1) = (at_ : Int) + (decL (b.drop at_)).2.1 := wrap_in (by omega)
    have h2 := fun H => (c39 (b.drop at_) (isB_drop hb at_) (by simp; omega)).up' H rfl rfl
    have htk : (b.map enc8).take m = b.map enc8 := List.take_of_length_le (by simp [hm])
    have s1 : l.length + 1 ≤ 140737488355328 := by omega
    have s2 : (l.length + 1) * 136 ≤ 140737488355328 := by omega
    have s3 : i + 1 ≤ 140737488355328 := by omega
    have s4 : (i + 1) * 136 ≤ 140737488355328 := by omega
    have hs : manyE (lsE b) (c - (i + 1)) (l ++ [(decL (b.drop at_)).1]) (at_ + (decL (b.drop at_)).2.1, (decL (b.drop at_)).2.2) = M := by
      rw [show c - i = (c - (i + 1)) + 1 by omega, manyE_step rfl] at g4
      exact g4
    have hok : okEy b (at_ + (decL (b.drop at_)).2.1, (decL (b.drop at_)).2.2) := ⟨by simp only; omega, fun e => by simp only; omega⟩
    clear g4 g3 hM hl
    generalize decL (b.drop at_) = d at *
    simp [hi, hm, hcm, hat, hat', htk]
    refine ⟨_, _, .inl (by simpa using h2 _), by simp, ?_⟩
    simp [hm, hcm, w1, u1, s1, s2, s3, s4, g2]
    exact ⟨i + 1, l ++ [d.1], at_ + d.2.1, d.2.2, ⟨by omega, by simp [g2], hok, hs⟩, by omega, by simp [zEy]⟩
end Go.Proofs.YtmgkemffbmfmpaaGreat
