/- The graph of the law: Check and Find. -/
import Derived.Test.YtgcnlmcpmocbhaaC69
import Derived.Test.YtgcnlmcpmocbhaaAmAI
set_option linter.unusedSimpArgs false
set_option linter.unusedVariables false
namespace Go.Proofs.Ytgcnlmcpmocbhaa
open Go Go.Am Go.Wk

-- routingref09.Check
set_option maxHeartbeats 8000000 in
set_option maxRecDepth 10000 in
theorem c40 (N : Nat) (hN : N ≤ 20) (l : List Lnk) (L : Nat) (hL : l.length = L) (hL2 : L ≤ 100) (hok : ∀ x ∈ l, okLk N x ∧ x.From ≠ x.To) (hasc : l.Pairwise fun x y => x.From < y.From ∨ x.From = y.From ∧ x.To < y.To) : CFun Try.prog 40 [.agg (cellsG N l)] [] (.int .i64 0) [] := by
  refine CFun.intro (tr := []) (fz := []) (n := 49) (rs := [.tmp 2]) Try.func40 rfl (by kernel_rfl) rfl rfl mixed (by kernel_rfl) (by simp) (by simp) ?_
  have k1 := fun H => (c57 N hN l).up' H rfl rfl
  have g0 : ¬ (1024 < L) := by omega
  simp only [cellsG] at k1
  simp
  refine ⟨_, _, .inl (by simpa using k1 _), by simp, ?_⟩
  simp [hL, g0]
  refine ⟨by omega, ?_⟩
  refine LoopK.intro (tr := []) mixed (by kernel_rfl)
    (fun i : Nat => [(1, .ptr 0 0), (4, .int .i64 i)])
    (fun _ => [cellsG N l]) (fun i => i ≤ L) (fun i => L - i) 0 ?_ ?_ ?_
  · exact Nat.zero_le _
  · simp
  · rintro i iL
    by_cases hi : i < L
    · obtain ⟨x, hx⟩ : ∃ x, l[i]? = some x := ⟨l[i]'(by omega), List.getElem?_eq_getElem _⟩
      have hxi : ∀ h : i < l.length, l[i] = x := fun h => getE h hx
      have hil : i < l.length := by omega
      have hm := List.mem_of_getElem? hx
      have k2 := fun H => (c58 N hN l x (hok x hm)).up' H rfl rfl
      have w1 : IntKind.i64.wrap ((i : Int) + 1) = i + 1 := wrap_in (by omega)
      generalize hQ : LoopPost _ _ _ _ _ _ _ = Q
      simp only [cellsG] at k2
      simp [hi, hL, hx, hxi, hil]
      refine ⟨_, _, .inl (by simpa using k2 _), by simp, ?_⟩
      simp
      by_cases h0 : i = 0
      · subst h0
        have w0 : IntKind.i64.wrap 1 = 1 := rfl
        simp [w0]
        rw [← hQ]
        simp only [LoopPost]
        refine ⟨1, by omega, by omega, ?_⟩
        simp
      · obtain ⟨j, rfl⟩ : ∃ j, i = j + 1 := ⟨i - 1, by omega⟩
        obtain ⟨y, hy⟩ : ∃ y, l[j]? = some y := ⟨l[j]'(by omega), List.getElem?_eq_getElem _⟩
        have hyi : ∀ h : j < l.length, l[j] = y := fun h => getE h hy
        have hjl : j < l.length := by omega
        have hjL : j < L := by omega
        have hlt : y.From < x.From ∨ y.From = x.From ∧ y.To < x.To := by
          have := List.pairwise_iff_getElem.1 hasc j (j + 1) hjl hil (by omega)
          rw [hyi hjl, hxi hil] at this
          exact this
        have k3 := fun H => (c59 y x hlt).up' H rfl rfl
        have w2 : IntKind.i64.wrap (j : Int) = j := wrap_in (by omega)
        have w4 : IntKind.i64.wrap ((j : Int) + 1 - 1) = j := by rw [show (j : Int) + 1 - 1 = j by omega]; exact w2
        have w5 : IntKind.i64.wrap ((j : Int) + 1 + 1) = j + 2 := by rw [show (j : Int) + 1 + 1 = j + 2 by omega]; exact wrap_in (by omega)
        have w3 : (0 : Int) < (j : Int) + 1 := by omega
        have w6 : (0 : Int) ≤ (j : Int) + 1 := by omega
        have w7 : (j : Int) + 1 < (L : Int) := by omega
        simp [w2, w3, w4, w6, w7, hL, hy, hyi, hjl, hjL, hx, hxi, hil, hi]
        refine ⟨_, _, .inl (by simpa using k3 _), by simp, ?_⟩
        simp [w5]
        rw [← hQ]
        simp only [LoopPost]
        refine ⟨j + 2, by omega, by omega, ?_⟩
        simp
    · simp [hi, hL]
end Go.Proofs.Ytgcnlmcpmocbhaa

/- The graph of the law: Find and Cost. -/
namespace Go.Proofs.Ytgcnlmcpmocbhaa
open Go Go.Am Go.Wk

/-- Where the edge lies. -/
def findF (a b : Int) : List Lnk → Nat → Int
  | [], _ => -1
  | x :: l, i => if x.From = a ∧ x.To = b then i else findF a b l (i + 1)
def isE (a b : Int) (x : Lnk) : Bool := decide (x.From = a) && decide (x.To = b)
theorem findF_cases (a b : Int) : ∀ (l : List Lnk) (i : Nat), (findF a b l i = -1 ∧ l.find? (isE a b) = none) ∨ ∃ k x, findF a b l i = ((i + k : Nat) : Int) ∧ l[k]? = some x ∧ l.find? (isE a b) = some x
  | [], _ => .inl ⟨rfl, rfl⟩
  | x :: l, i => by
    by_cases h : x.From = a ∧ x.To = b
    · refine .inr ⟨0, x, ?_, rfl, ?_⟩
      · unfold findF; rw [if_pos h]; simp
      · simp [isE, h.1, h.2]
    · have e : findF a b (x :: l) i = findF a b l (i + 1) := by
        conv => lhs; unfold findF
        rw [if_neg h]
      have e2 : (x :: l).find? (isE a b) = l.find? (isE a b) := by
        have : isE a b x = false := by
          unfold isE
          by_cases c : x.From = a
          · have d : ¬ x.To = b := fun d => h ⟨c, d⟩
            simp [d]
          · simp [c]
        simp [List.find?, this]
      rw [e, e2]
      rcases findF_cases a b l (i + 1) with h1 | ⟨k, y, h1, h2, h3⟩
      · exact .inl h1
      · exact .inr ⟨k + 1, y, by rw [h1]; congr 1; omega, by simpa using h2, h3⟩
-- routingref09.Find
set_option maxHeartbeats 8000000 in
set_option maxRecDepth 10000 in
theorem c60 (N : Nat) (l : List Lnk) (L : Nat) (hL : l.length = L) (hL2 : L ≤ 100) (a b : Int) : CFun Try.prog 60 [.agg (cellsG N l), .int .i64 a, .int .i64 b] [] (.int .i64 (findF a b l 0)) [] := by
  refine CFun.intro (tr := []) (fz := []) (n := 34) (rs := [.tmp 6]) Try.func60 rfl (by kernel_rfl) rfl rfl mixed (by kernel_rfl) (by simp) (by simp) ?_
  generalize hu : findF a b l 0 = u
  simp
  refine LoopK.intro (tr := []) mixed (by kernel_rfl)
    (fun i : Nat => [(1, .int .i64 a), (2, .int .i64 b), (3, .ptr 0 0), (7, .int .i64 i)])
    (fun _ => [cellsG N l]) (fun i => i ≤ L ∧ findF a b (l.drop i) i = u) (fun i => L - i) 0 ?_ ?_ ?_
  · exact ⟨Nat.zero_le _, by simpa using hu⟩
  · simp
  · rintro i ⟨iL, hi0⟩
    by_cases hi : i < L
    · obtain ⟨x, hx⟩ : ∃ x, l[i]? = some x := ⟨l[i]'(by omega), List.getElem?_eq_getElem _⟩
      have hxi : ∀ h : i < l.length, l[i] = x := fun h => getE h hx
      have hil : i < l.length := by omega
      have w1 : IntKind.i64.wrap ((i : Int) + 1) = i + 1 := wrap_in (by omega)
      have hd : l.drop i = x :: l.drop (i + 1) := by rw [List.drop_eq_getElem_cons hil, hxi hil]
      rw [hd] at hi0
      unfold findF at hi0
      generalize hQ : LoopPost _ _ _ _ _ _ _ = Q
      by_cases g : x.From = a ∧ x.To = b
      · rw [if_pos g] at hi0
        subst hi0
        simp [hi, hL, hx, hxi, hil, g.1, g.2]
        rw [← hQ]
        simp [LoopPost]
      · rw [if_neg g] at hi0
        by_cases g1 : x.From = a
        · have g2 : ¬ x.To = b := fun c => g ⟨g1, c⟩
          simp [hi, hL, hx, hxi, hil, g1, g2, w1]
          rw [← hQ]
          simp only [LoopPost]
          refine ⟨i + 1, ⟨hi, hi0⟩, by omega, ?_⟩
          simp
        · simp [hi, hL, hx, hxi, hil, g1, w1]
          rw [← hQ]
          simp only [LoopPost]
          refine ⟨i + 1, ⟨hi, hi0⟩, by omega, ?_⟩
          simp
    · have : l.drop i = [] := List.drop_eq_nil_of_le (by omega)
      rw [this] at hi0
      unfold findF at hi0
      subst hi0
      simp [hi, hL]
-- routingref09.Cost
def costF (l : List Lnk) (a b : Int) : Int := match l.find? (isE a b) with | none => 0 | some x => x.Cost
set_option maxHeartbeats 8000000 in
set_option maxRecDepth 10000 in
theorem c43 (N : Nat) (l : List Lnk) (L : Nat) (hL : l.length = L) (hL2 : L ≤ 100) (a b : Int) : CFun Try.prog 43 [.agg (cellsG N l), .int .i64 a, .int .i64 b] [] (.tup [.int .i64 (costF l a b), .bool (l.find? (isE a b)).isSome]) [] := by
  refine CFun.intro (tr := []) (fz := []) (n := 21) (rs := [.tmp 6, .tmp 7]) Try.func43 rfl (by kernel_rfl) rfl rfl mixed (by kernel_rfl) (by simp) (by simp) ?_
  have k1 := fun H => (c60 N l L hL hL2 a b).up' H rfl rfl
  simp only [cellsG] at k1
  simp
  refine ⟨_, _, .inl (by simpa using k1 _), by simp, ?_⟩
  unfold costF
  rcases findF_cases a b l 0 with ⟨h1, h2⟩ | ⟨k, x, h1, h2, h3⟩
  · simp [h1, h2]
  · have hkl : k < l.length := (List.getElem?_eq_some_iff.1 h2).1
    have hxi : ∀ h : k < l.length, l[k] = x := fun h => getE h h2
    have g : ¬ ((k : Int) < 0) := by omega
    rw [Nat.zero_add] at h1
    simp [h1, h2, h3, hxi, hkl, g]
end Go.Proofs.Ytgcnlmcpmocbhaa

/- A tree of the law: is the first step the last. -/
namespace Go.Proofs.Ytgcnlmcpmocbhaa
open Go Go.Am Go.Wk

@[simp] def matD (N : Nat) (D : Nat → Nat → Int) : AVal := .sl 1 ((List.range N).map fun i => .sl 1 (rwD N (D i)) .sh) .sh
def dirF (l : List Lnk) (D : Nat → Nat → Int) (i j : Nat) : Bool := (l.find? (isE i j)).isSome && decide (costF l i j = D i j)
-- routingref11.direct
set_option maxHeartbeats 8000000 in
set_option maxRecDepth 10000 in
theorem c42 (N : Nat) (h0 : 0 < N) (hN : N ≤ 20) (l : List Lnk) (L : Nat) (hL : l.length = L) (hL2 : L ≤ 100) (D : Nat → Nat → Int) (i j : Nat) (hi : i < N) (hj : j < N) :
    CFun Try.prog 42 [.agg (cellsG N l), matD N D, .int .i64 i, .int .i64 j] [] (.bool (dirF l D i j)) [] := by
  refine CFun.intro (tr := []) (fz := []) (n := 87) (rs := [.tmp 8]) Try.func42 rfl (by kernel_rfl) rfl rfl mixed (by kernel_rfl) (by simp) (by simp) ?_
  have k1 := fun H => (c43 N l L hL hL2 i j).up' H rfl rfl
  have hDl := fun f => rwD_len N f
  have hDg := fun k f h => rwD_getE (n := N) (k := k) (f := f) h
  have jN : ¬ ((N : Int) ≤ j) := by omega
  have jN2 : ¬ (N ≤ j) := by omega
  have hiI : (i : Int) < N := by omega
  have hjI : (j : Int) < N := by omega
  unfold dirF
  generalize costF l i j = c at *
  generalize (l.find? (isE i j)).isSome = b at *
  simp only [cellsG] at k1
  simp
  refine ⟨_, _, .inl (by simpa using k1 _), by simp, ?_⟩
  by_cases hb : b = true
  · subst hb
    by_cases hc : c = D i j
    · simp [hi, hj, hiI, hjI, hDl, hDg, hc]
    · simp [hi, hj, hiI, hjI, hDl, hDg, hc, jN, jN2]
      refine LoopK.intro (tr := []) mixed (by kernel_rfl)
        (fun _ : Nat => [(1, matD N D), (11, .int .i64 N)])
        (fun _ => [cellsG N l]) (fun _ => True) (fun _ => 0) 0 ?_ ?_ ?_
      · trivial
      · simp
      · rintro k _
        simp
  · have hb' : b = false := by cases b <;> simp_all
    subst hb'
    simp [hi, hj, hiI, hjI, hDl, hDg, jN, jN2]
    refine LoopK.intro (tr := []) mixed (by kernel_rfl)
      (fun _ : Nat => [(1, matD N D), (11, .int .i64 N)])
      (fun _ => [cellsG N l]) (fun _ => True) (fun _ => 0) 0 ?_ ?_ ?_
    · trivial
    · simp
    · rintro k _
      simp
end Go.Proofs.Ytgcnlmcpmocbhaa

/- A tree of the law: the region in which its record and rows are made, in any order. -/
namespace Go.Proofs.Ytgcnlmcpmocbhaa
open Go Go.Am Go.Wk

/-- The slots that the region writes; what it writes there; what it makes. -/
def slotR (j : Nat) : Nat := if j = 10 then 9 else 37 + j
theorem slotR_ne {i j : Nat} (hj : j < 11) (hi : i < 11) (e : ¬ j = i) : ¬ slotR j = slotR i := by
  unfold slotR
  split <;> split <;> omega
def valR (N : Nat) (D : Nat → Nat → Int) (r : Nat) (L : List Nat) : Nat → AVal
  | 0 => .int .i64 r
  | 1 => matD N D
  | 2 => .int .i64 r
  | 3 => .iptr [.sl 1 (rwD N (D r)) .sh] 0
  | 4 => .sl 1 (rwD N (D r)) .sh
  | 5 => .int .i64 N
  | 6 => .osl (2 + L.idxOf 0) 0 N (some N) 1
  | 7 => .int .i64 N
  | 8 => .osl (2 + L.idxOf 1) 0 N (some N) 1
  | 9 => .mix [.int .i64 r, .sl 1 (rwD N (D r)) .sh, .osl (2 + L.idxOf 0) 0 N (some N) 1, .osl (2 + L.idxOf 1) 0 N (some N) 1]
  | 10 => .ptr (2 + L.idxOf 2) 0
  | _ => .undef
def recR (N : Nat) (D : Nat → Nat → Int) (r : Nat) (L : List Nat) : List AVal := [.int .i64 r, .sl 1 (rwD N (D r)) .sh, .osl (2 + L.idxOf 0) 0 N (some N) 1, .osl (2 + L.idxOf 1) 0 N (some N) 1]
def zerR : List AVal := [.int .i64 0, .sl 0 [] .full, .sl 0 [] .full, .sl 0 [] .full]
def celR (N : Nat) (D : Nat → Nat → Int) (r : Nat) (L : List Nat) (b : Bool) (q : Nat) : List AVal := if q = 2 then (if b = true then recR N D r L else zerR) else List.replicate N (.sl 0 [] .full)
structure RegI (N : Nat) (D : Nat → Nat → Int) (r : Nat) (t0 : Nat → AVal) (A B : List AVal) (l : Nat → Bool) (L : List Nat) (s : ASt) : Prop where
  nd : L.Nodup
  lt : ∀ x ∈ L, x < 3
  mem : ∀ q, q < 3 → (q ∈ L ↔ l (6 + 2 * q) = true)
  hH : s.H = A :: B :: L.map (celR N D r L (l 11))
  val : ∀ j, j < 11 → l j = true → s.t (slotR j) = valR N D r L j
  t0 : ∀ d, d < 9 → s.t d = t0 d
  l9 : l 9 = true → l 6 = true ∧ l 8 = true
  l11 : l 11 = true → ∀ j, j < 11 → l j = true
theorem RegI.put {N : Nat} {D : Nat → Nat → Int} {r : Nat} {t0 : Nat → AVal} {A B : List AVal} {l : Nat → Bool} {L : List Nat} {s : ASt} (h : RegI N D r t0 A B l L s) (i : Nat) (hi : i < 11) (h1 : i ≠ 6 ∧ i ≠ 8 ∧ i ≠ 10) (hl : l i = false) (h9 : i = 9 → l 6 = true ∧ l 8 = true) :
    RegI N D r t0 A B (fun j => if j = i then true else l j) L ⟨upd s.t (slotR i) (valR N D r L i), s.H⟩ := by
  have h11 : l 11 = false := by
    cases e : l 11 with
    | false => rfl
    | true => rw [h.l11 e i hi] at hl; cases hl
  refine ⟨h.nd, h.lt, fun q hq => ?_, ?_, fun j hj hlj => ?_, fun d hd => ?_, fun h => ?_, fun h => ?_⟩
  · show _ ↔ (if 6 + 2 * q = i then true else l (6 + 2 * q)) = true
    rw [if_neg (by omega)]
    exact h.mem q hq
  · show s.H = _
    rw [if_neg (by omega)]
    exact h.hH
  · show upd s.t (slotR i) _ (slotR j) = _
    simp only [upd]
    by_cases e : j = i
    · subst e; rw [if_pos rfl]
    · have : ¬ slotR j = slotR i := slotR_ne hj hi e
      rw [if_neg this]
      have hlj : (if j = i then true else l j) = true := hlj
      rw [if_neg e] at hlj
      exact h.val j hj hlj
  · show upd s.t (slotR i) _ d = _
    simp only [upd]
    have : ¬ d = slotR i := by unfold slotR; split <;> omega
    rw [if_neg this]
    exact h.t0 d hd
  · show (if 6 = i then true else l 6) = true ∧ (if 8 = i then true else l 8) = true
    rw [if_neg (by omega), if_neg (by omega)]
    by_cases e : 9 = i
    · exact h9 e.symm
    · have h : (if 9 = i then true else l 9) = true := h
      rw [if_neg e] at h
      exact RegI.l9 ‹_› h
  · have h : (if 11 = i then true else l 11) = true := h
    rw [if_neg (by omega), h11] at h
    cases h
theorem valR_snoc {N : Nat} {D : Nat → Nat → Int} {r : Nat} {L : List Nat} {x : Nat} {l : Nat → Bool} (hm : ∀ q, q < 3 → (q ∈ L ↔ l (6 + 2 * q) = true)) (l9 : l 9 = true → l 6 = true ∧ l 8 = true) {j : Nat} (hj : j < 11) (h : l j = true) : valR N D r (L ++ [x]) j = valR N D r L j := by
  have g : ∀ q, q < 3 → l (6 + 2 * q) = true → (L ++ [x]).idxOf q = L.idxOf q := fun q hq hl => by
    rw [List.idxOf_append, if_pos ((hm q hq).2 hl)]
  rcases (by omega : j = 0 ∨ j = 1 ∨ j = 2 ∨ j = 3 ∨ j = 4 ∨ j = 5 ∨ j = 6 ∨ j = 7 ∨ j = 8 ∨ j = 9 ∨ j = 10) with rfl | rfl | rfl | rfl | rfl | rfl | rfl | rfl | rfl | rfl | rfl
  all_goals first
    | rfl
    | (simp only [valR]; rw [g 0 (by omega) h])
    | (simp only [valR]; rw [g 1 (by omega) h])
    | (simp only [valR]; rw [g 2 (by omega) h])
    | (simp only [valR]; rw [g 0 (by omega) (l9 h).1, g 1 (by omega) (l9 h).2])
theorem RegI.make {N : Nat} {D : Nat → Nat → Int} {r : Nat} {t0 : Nat → AVal} {A B : List AVal} {l : Nat → Bool} {L : List Nat} {s : ASt} (h : RegI N D r t0 A B l L s) (x : Nat) (hx : x < 3) (hl : l (6 + 2 * x) = false) :
    RegI N D r t0 A B (fun j => if j = 6 + 2 * x then true else l j) (L ++ [x]) ⟨upd s.t (slotR (6 + 2 * x)) (valR N D r (L ++ [x]) (6 + 2 * x)), s.H ++ [if x = 2 then zerR else List.replicate N (.sl 0 [] .full)]⟩ ∧ (L ++ [x]).idxOf x + 2 = s.H.length := by
  have h11 : l 11 = false := by
    cases e : l 11 with
    | false => rfl
    | true => rw [h.l11 e _ (by omega)] at hl; cases hl
  have hxL : x ∉ L := fun hm => by rw [(h.mem x hx).1 hm] at hl; cases hl
  refine ⟨⟨?_, ?_, fun q hq => ?_, ?_, fun j hj hlj => ?_, fun d hd => ?_, fun h9 => ?_, fun h => ?_⟩, ?_⟩
  · rw [List.nodup_append]
    exact ⟨h.nd, by simp, fun a ha b hb e => hxL (by simp at hb; subst hb; subst e; exact ha)⟩
  · intro y hy
    rcases List.mem_append.1 hy with hy | hy
    · exact h.lt y hy
    · simp at hy; omega
  · show _ ↔ (if 6 + 2 * q = 6 + 2 * x then true else l (6 + 2 * q)) = true
    by_cases e : q = x
    · subst e; simp
    · rw [if_neg (by omega), ← h.mem q hq]
      simp [e]
  · show s.H ++ _ = _
    have e1 : (if 11 = 6 + 2 * x then true else l 11) = false := by rw [if_neg (by omega), h11]
    have hh := h.hH
    rw [h11] at hh
    rw [e1, hh, List.map_append, List.cons_append, List.cons_append]
    congr 3
  · show upd s.t _ _ (slotR j) = _
    simp only [upd]
    by_cases e : j = 6 + 2 * x
    · subst e; rw [if_pos rfl]
    · have : ¬ slotR j = slotR (6 + 2 * x) := slotR_ne hj (by omega) e
      rw [if_neg this]
      have hlj : (if j = 6 + 2 * x then true else l j) = true := hlj
      rw [if_neg e] at hlj
      rw [h.val j hj hlj, valR_snoc h.mem h.l9 hj hlj]
  · show upd s.t _ _ d = _
    simp only [upd]
    have : ¬ d = slotR (6 + 2 * x) := by unfold slotR; split <;> omega
    rw [if_neg this]
    exact h.t0 d hd
  · have h9 : (if 9 = 6 + 2 * x then true else l 9) = true := h9
    rw [if_neg (by omega)] at h9
    have := h.l9 h9
    constructor
    · show (if 6 = 6 + 2 * x then true else l 6) = true
      split
      · rfl
      · exact this.1
    · show (if 8 = 6 + 2 * x then true else l 8) = true
      split
      · rfl
      · exact this.2
  · have h : (if 11 = 6 + 2 * x then true else l 11) = true := h
    rw [if_neg (by omega), h11] at h
    cases h
  · rw [List.idxOf_append, if_neg hxL, h.hH]
    simp
theorem orIf (l : Nat → Bool) (i : Nat) : (fun j => decide (j = i) || l j) = fun j => if j = i then true else l j := by
  funext j
  by_cases e : j = i <;> simp [e]
end Go.Proofs.Ytgcnlmcpmocbhaa
