import Derived.Test.YtmgkemffbmfmpaaE6
set_option linter.unusedSimpArgs false
set_option linter.unusedVariables false
namespace Go.Proofs.Ytmgkemffbmfmpaa
open Go Go.Am

def prevA (l : List Lsa) : Nat → Option Lsa
  | 0 => none
  | i + 1 => l[i]?
theorem encL_cases (x : Lsa) : sealE x = if chkA x ≠ 0 then chkA x else if x.H.Sum = sumA x then 0 else 13 := by
  unfold sealE
  split
  · rfl
  · split <;> simp_all
-- routingref24.Rows
set_option maxHeartbeats 8000000 in
set_option maxRecDepth 10000 in
theorem f67 (l : List Lsa) (n : Nat) (hn : l.length = n) (hlen : n < 1099511627776) (ok : ∀ x ∈ l, okA x) : CFun Try.prog 67 [.sl 15 (l.map encA) .sh] [] (.int .i64 (rowsE none l)) [] := by
  refine CFun.intro (tr := []) (fz := []) (n := 44) (rs := [.tmp 2]) Try.func67 rfl (by kernel_rfl) rfl rfl mixed (by kernel_rfl) (by simp) (by simp) ?_
  simp
  refine LoopK.intro (tr := []) mixed (by kernel_rfl) (fun i : Nat => [(0, .sl 15 (l.map encA) .sh), (3, .int .i64 i)]) (fun _ => []) (fun i => i ≤ n ∧ rowsE none l = rowsE (prevA l i) (l.drop i)) (fun i => n - i) 0 ?_ ?_ ?_
  · simp [prevA]
  · simp
  · rintro i ⟨h1, h2⟩
    by_cases hi : i < n
    · obtain ⟨x, hx, hd⟩ := get_drop (l := l) (i := i) (by omega)
      rw [hd] at h2
      have w1 : IntKind.i64.wrap ((i : Int) + 1) = i + 1 := wrap_in (by omega)
      have okx := ok x (List.mem_of_getElem? hx)
      have h33 := fun H => (c14 x okx).up' H rfl rfl
      have hK := fun H => (c26 x.H).up' H rfl rfl
      simp only [rowsE] at h2
      simp [hi, hn, hx, gE hx]
      refine ⟨_, _, .inl (by simpa using h33 _), by simp, ?_⟩
      have hse := encL_cases x
      by_cases e0 : chkA x = 0
      case neg =>
        rw [if_pos e0] at hse
        rw [hse, if_pos e0] at h2
        simp [e0, h2]
      have hl := chkA_len e0
      have h34 := fun H => (c22 x hl.1 hl.2).up' H rfl rfl
      rw [if_neg (by simpa using e0)] at hse
      clear hd
      simp [e0, hi, hn, hx, gE hx]
      refine ⟨_, _, .inl (by simpa using h34 _), by simp, ?_⟩
      by_cases e1 : x.H.Sum = sumA x
      case neg =>
        rw [if_neg e1] at hse
        rw [hse] at h2
        simp at h2
        simp [e1, h2]
      rw [if_pos e1] at hse
      rw [hse] at h2
      simp only [ne_eq, not_true, if_false] at h2
      cases i with
      | zero =>
        have w0 : IntKind.i64.wrap 1 = 1 := by decide
        simp only [prevA] at h2
        simp [e1, w0]
        exact ⟨1, ⟨by omega, by simpa [prevA, hx] using h2⟩, by omega, by simp⟩
      | succ j =>
        obtain ⟨q, hq, _⟩ := get_drop (l := l) (i := j) (by omega)
        simp only [prevA, hq] at h2
        have w2 : IntKind.i64.wrap (j : Int) = j := wrap_in (by omega)
        have h0 : (0 : Int) < ((j + 1 : Nat) : Int) := by omega
        have hjn : j < n := by omega
        have hKq := fun H => (c26 q.H).up' H rfl rfl
        have hC := fun H => (c28 (keyH q.H) (keyH x.H)).up' H rfl rfl
        have hkk : cmpY (keyA q) (keyA x) = cmpY (keyH q.H) (keyH x.H) := rfl
        rw [hkk] at h2
        generalize keyH q.H = kq at hKq hC h2
        generalize keyH x.H = kx at hK hC h2
        simp only [Int.natCast_add, Int.natCast_one] at w1 h0
        have hj0 : (0 : Int) ≤ (j : Int) + 1 := by omega
        simp [e1, w2, h0, hn, hq, gE hq, hjn, hx, gE hx, hi]
        refine ⟨_, _, .inl (by simpa using hKq _), by simp, ?_⟩
        simp [hn, hx, gE hx, hi, hj0]
        refine ⟨_, _, .inl (by simpa using hK _), by simp, ?_⟩
        simp
        refine ⟨_, _, .inl (by simpa using hC _), by simp, ?_⟩
        by_cases ho : 0 ≤ cmpY kq kx
        · simp [ho] at h2
          simp [ho, h2]
        · simp [ho] at h2
          have w3 : IntKind.i64.wrap ((j : Int) + 2) = j + 2 := wrap_in (by omega)
          simp [ho, w1, w3]
          exact ⟨j + 1 + 1, ⟨by omega, by simpa [prevA, hx] using h2⟩, by omega, by simp⟩
    · have e : l.drop i = [] := List.drop_of_length_le (by omega)
      rw [e] at h2
      simp [rowsE] at h2
      simp [hi, hn, h2]
-- routingref25.Check
set_option maxHeartbeats 4000000 in
set_option maxRecDepth 10000 in
theorem f24 (l : List Lsa) (n : Nat) (hn : l.length = n) (hlen : n < 1099511627776) (ok : ∀ x ∈ l, okA x) : CFun Try.prog 24 [.sl 15 (l.map encA) .sh] [] (.int .i64 (chkD l)) [] := by
  refine CFun.intro (tr := []) (fz := []) (n := 8) (rs := [.tmp 2]) Try.func24 rfl (by kernel_rfl) rfl rfl mixed (by kernel_rfl) (by simp) (by simp) ?_
  have h := f67 l n hn hlen ok
  unfold chkD
  by_cases h64 : 2000 < n
  · have h64' : (2000 : Int) < n := by omega
    simp [hn, h64, h64']
  · have h64' : ¬ (2000 : Int) < n := by omega
    simp [hn, h64, h64']
    refine ⟨_, _, .inl (by simpa using h), by simp, ?_⟩
    simp
-- lsdb.Check
set_option maxHeartbeats 8000000 in
set_option maxRecDepth 10000 in
theorem f32 (l : List Lsa) (n : Nat) (hn : l.length = n) (hlen : n < 1099511627776) : CFun Try.prog 32 [.sl 15 (l.map encA) .sh] [] (.int .i64 (chkD l)) [] := by
  refine CFun.intro (tr := []) (fz := []) (n := 38) (rs := [.tmp 2]) Try.func32 rfl (by kernel_rfl) rfl rfl mixed (by kernel_rfl) (by simp) (by simp) ?_
  unfold chkD
  by_cases h64 : 2000 < n
  · have h64' : (2000 : Int) < n := by omega
    simp [hn, h64, h64']
  have h64' : ¬ (2000 : Int) < n := by omega
  simp [hn, h64, h64']
  refine LoopK.intro (tr := []) mixed (by kernel_rfl) (fun i : Nat => [(0, .sl 15 (l.map encA) .sh), (9, .sl 15 (l.map encA) .sh), (10, .int .i64 n), (11, .int .i64 i)]) (fun _ => []) (fun i => i ≤ n ∧ rowsE none l = rowsE (prevA l i) (l.drop i)) (fun i => n - i) 0 ?_ ?_ ?_
  · simp [prevA]
  · simp
  · rintro i ⟨h1, h2⟩
    by_cases hi : i < n
    · obtain ⟨x, hx, hd⟩ := get_drop (l := l) (i := i) (by omega)
      rw [hd] at h2
      have w1 : IntKind.i64.wrap ((i : Int) + 1) = i + 1 := wrap_in (by omega)
      have h81 := fun H => (f81 x).up' H rfl rfl
      have hK := fun H => (c25 x.H).up' H rfl rfl
      simp only [rowsE] at h2
      clear hd
      simp [hi, hn, hx, gE hx]
      refine ⟨_, _, .inl (by simpa using h81 _), by simp, ?_⟩
      by_cases e0 : sealE x = 0
      case neg =>
        rw [if_pos e0] at h2
        simp [e0, h2]
      rw [if_neg (by simpa using e0)] at h2
      cases i with
      | zero =>
        have w0 : IntKind.i64.wrap 1 = 1 := by decide
        simp only [prevA] at h2
        simp [e0, w0]
        exact ⟨1, ⟨by omega, by simpa [prevA, hx] using h2⟩, by omega, by simp⟩
      | succ j =>
        obtain ⟨q, hq, _⟩ := get_drop (l := l) (i := j) (by omega)
        simp only [prevA, hq] at h2
        have w2 : IntKind.i64.wrap (j : Int) = j := wrap_in (by omega)
        have h0 : (0 : Int) < ((j + 1 : Nat) : Int) := by omega
        have hjn : j < n := by omega
        have hKq := fun H => (c25 q.H).up' H rfl rfl
        have hC := fun H => (c27 (keyH q.H) (keyH x.H)).up' H rfl rfl
        have hkk : cmpY (keyA q) (keyA x) = cmpY (keyH q.H) (keyH x.H) := rfl
        rw [hkk] at h2
        generalize keyH q.H = kq at hKq hC h2
        generalize keyH x.H = kx at hK hC h2
        simp only [Int.natCast_add, Int.natCast_one] at w1 h0
        simp [e0, w2, h0, hn, hq, gE hq, hjn, hx, gE hx, hi]
        refine ⟨_, _, .inl (by simpa using hKq _), by simp, ?_⟩
        simp
        refine ⟨_, _, .inl (by simpa using hK _), by simp, ?_⟩
        simp
        refine ⟨_, _, .inl (by simpa using hC _), by simp, ?_⟩
        by_cases ho : 0 ≤ cmpY kq kx
        · simp [ho] at h2
          simp [ho, h2]
        · simp [ho] at h2
          have w3 : IntKind.i64.wrap ((j : Int) + 2) = j + 2 := wrap_in (by omega)
          simp [ho, w1, w3]
          exact ⟨j + 1 + 1, ⟨by omega, by simpa [prevA, hx] using h2⟩, by omega, by simp⟩
    · have e : l.drop i = [] := List.drop_of_length_le (by omega)
      rw [e] at h2
      simp [rowsE] at h2
      simp [hi, hn, h2]
end Go.Proofs.Ytmgkemffbmfmpaa

namespace Go.Proofs.Ytmgkemffbmfmpaa
open Go Go.Am

theorem pos_lt {k : LKey} : ∀ {l : List Lsa}, asc l → ∀ {a : Nat} {x : Lsa}, l[a]? = some x → (ltY (keyA x) k ↔ a < posD l k) := by
  intro l
  induction l with
  | nil => intro _ a x h; simp at h
  | cons y ys ih =>
    intro h a x hx
    simp only [asc, List.pairwise_cons] at h
    unfold posD
    rw [posF_cons]
    by_cases h1 : ltY (keyA y) k
    · simp only [h1, decide_true, Bool.not_true, Bool.false_eq_true, if_false]
      cases a with
      | zero => simp at hx; subst hx; simp [h1]
      | succ a =>
        have := ih h.2 (a := a) (x := x) (by simpa using hx)
        unfold posD at this
        rw [this]; omega
    · simp only [h1, decide_false, Bool.not_false, if_true]
      cases a with
      | zero => simp at hx; subst hx; simp [h1]
      | succ a =>
        have hm : x ∈ ys := List.mem_of_getElem? (by simpa using hx)
        simp only [Nat.not_lt_zero, iff_false]
        exact fun q => h1 (ltY_trans (h.1 x hm) q)
theorem pos_le (l : List Lsa) (k : LKey) : posD l k ≤ l.length := posF_le _ _
-- slices.BinarySearchFunc
set_option maxHeartbeats 4000000 in
set_option maxRecDepth 10000 in
theorem f82 (l : List Lsa) (n : Nat) (hn : l.length = n) (hlen : n < 1099511627776) (hs : asc l) (k : LKey) : CFun Try.prog 82 [.sl 15 (l.map encA) .sh, encY k, .fn 83 [] []] [] (.tup [.int .i64 (posD l k), .bool (fndD l k)]) [] := by
  refine CFun.intro (tr := []) (fz := []) (n := 49) (rs := [.tmp 6, .tmp 7]) Try.func82 rfl (by kernel_rfl) rfl rfl mixed (by kernel_rfl) (by simp) (by simp) ?_
  have hpl := pos_le l k
  have hpf : ∀ a x, l[a]? = some x → (cmpY (keyA x) k < 0 ↔ a < posD l k) := fun a x h => pos_lt hs h
  have hfd : fndD l k = (match l[posD l k]? with | some x => decide (cmpY (keyA x) k = 0) | none => false) := by
    unfold fndD
    cases l[posD l k]? with
    | none => rfl
    | some x => simp only [cmpY_zero]
  rw [hfd]
  generalize posD l k = p at hpl hpf ⊢
  simp [hn]
  refine LoopK.intro (tr := []) mixed (by kernel_rfl) (fun q : Nat × Nat => [(0, .sl 15 (l.map encA) .sh), (2, .fn 83 [] []), (4, .ptr 0 0), (8, .int .i64 n), (9, .int .i64 q.1), (10, .int .i64 q.2)]) (fun _ => [cellsY k]) (fun q => q.1 ≤ p ∧ p ≤ q.2 ∧ q.2 ≤ n) (fun q => q.2 - q.1) (0, n) ?_ ?_ ?_
  · exact ⟨by simp, by simpa [hn] using hpl, by simp⟩
  · simp
  · rintro ⟨i, j⟩ ⟨h1, h2, h3⟩
    simp only at h1 h2 h3
    by_cases hi : i < j
    · obtain ⟨h, hh⟩ : ∃ h, (i + j) / 2 = h := ⟨_, rfl⟩
      obtain ⟨x, hx, _⟩ := get_drop (l := l) (i := h) (by omega)
      have h83 := fun H => (f83 x k).up' H rfl rfl
      have hp := hpf h x hx
      have w1 : IntKind.i64.wrap ((i : Int) + j) = i + j := wrap_in (by omega)
      have w2 : IntKind.u64.wrap ((i : Int) + j) = i + j := by rw [wrap_u64]; omega
      have w3 : ((i : Int) + j).fdiv (2 ^ min 1 IntKind.u64.bits) = h := by
        rw [show (2 : Int) ^ min 1 IntKind.u64.bits = 2 from rfl, Int.fdiv_eq_ediv_of_nonneg _ (by omega)]
        omega
      have w4 : IntKind.u64.wrap (h : Int) = h := by rw [wrap_u64]; omega
      have w5 : IntKind.i64.wrap (h : Int) = h := wrap_in (by omega)
      have w6 : IntKind.i64.wrap ((h : Int) + 1) = h + 1 := wrap_in (by omega)
      have hhn : h < n := by omega
      clear hfd hpf
      simp [hi, w1, w2, w3, w4, w5, hx, gE hx, hn, hhn]
      refine ⟨_, _, .inl (by simpa using h83 _), by simp, ?_⟩
      by_cases hb : cmpY (keyA x) k < 0
      · simp [hb, w5, w6]
        exact ⟨h + 1, j, ⟨hp.1 hb, h2, h3⟩, by omega, by simp⟩
      · have hb2 := fun q => hb (hp.2 q)
        simp [hb, w5, w6]
        exact ⟨i, h, ⟨h1, by omega, by omega⟩, by omega, by simp⟩
    · have e1 : i = p := by omega
      subst e1
      by_cases hin : i < n
      · obtain ⟨x, hx, _⟩ := get_drop (l := l) (i := i) (by omega)
        have h83 := fun H => (f83 x k).up' H rfl rfl
        clear hfd hpf
        simp [hi, hin, hx, gE hx, hn]
        refine ⟨_, _, .inl (by simpa using h83 _), by simp, ?_⟩
        by_cases hz : cmpY (keyA x) k = 0 <;> simp [hz]
      · have e2 : l[i]? = none := List.getElem?_eq_none (by omega)
        clear hfd hpf
        simp [hi, hin, e2]
end Go.Proofs.Ytmgkemffbmfmpaa

namespace Go.Proofs.Ytmgkemffbmfmpaa
open Go Go.Am

-- An element, or zero.
def ceO : Option Lsa → List AVal
  | some x => cellsA x
  | none => zA
theorem eO : Enc ceO 15 where
  pos := by omega
  len x := by cases x <;> rfl
  dis x := by cases x <;> rfl
  tree x := by cases x <;> rfl
theorem row_some (l : List Lsa) : rowC ceO (l.map some) = rowC ceA l := by
  simp only [rowC, List.flatMap_map]
  rfl
theorem ins_set (l : List Lsa) (i : Nat) (h : i ≤ l.length) (b : Lsa) : (insL (l.map some) i none).set i (some b) = (insL l i b).map some := by
  have hl : ((l.map some).take i).length = i := by simp; omega
  unfold insL
  rw [List.set_append_right _ _ (by omega), hl, Nat.sub_self, List.set_cons_zero]
  simp
-- slices.Insert of one, into a row without room
set_option maxHeartbeats 4000000 in
set_option maxRecDepth 10000 in
theorem f85 (l : List (Option Lsa)) (i n : Nat) (hn : l.length = n) (hlen : n < 1000000000) (hi : i ≤ n) (h0 : 0 < n) (b : Option Lsa) : CFun Try.prog 85 [.osl 0 0 n (some n) 15, .int .i64 i, .sl 15 [.agg (ceO b)] .sh] [rowC ceO l]
    (.osl 1 0 (n + 1) none 15) [rowC ceO l, rowC ceO (insL l i b)] := by
  refine CFun.intro (tr := [100025, 100040]) (fz := []) (n := 95) (rs := [.tmp 6]) Try.func85 rfl (by kernel_rfl) rfl rfl mixed (by kernel_rfl) (by simp) (by simp) ?_
  have s1 : (n:Int) + 1 < 1099511627777 := by omega
  have w1 : IntKind.i64.wrap ((n : Int) + 1) = n + 1 := wrap_in (by omega)
  have w2 : IntKind.i64.wrap ((i : Int) + 1) = i + 1 := wrap_in (by omega)
  have w3 : IntKind.i64.wrap ((n : Int) + 1 - i) = n + 1 - i := wrap_in (by omega)
  have hfl := eO.rowLen l
  have hil := insL_len (b := b) (l := l) (i := i) (by omega)
  have htr := eO.rowTree (insL l i b)
  have hcb : ceO b = rowC ceO [b] := (rowC_one b).symm
  have hbl : (rowC ceO [b]).length = 15 := by rw [eO.rowLen]; rfl
  have hsrc : asrc [rowC ceO l] (.osl 0 0 i (some n) 15) = some (15, i, rowC ceO (l.take i)) := by
    unfold asrc
    by_cases h0 : i = 0
    · subst h0; rfl
    · simp only [h0, if_false, List.getElem?_cons_zero, Option.bind_some]
      rw [if_pos (by rw [hfl]; simp; omega), List.drop_zero, eO.rowTake]
  have hsb : ∀ H, asrc H (.sl 15 [.agg (ceO b)] .sh) = some (15, 1, rowC ceO [b]) := fun H => rfl
  have hle0 := eO.rowLe 2 l
  have hle := eO.rowLe 2 (insL l i b)
  have hds := eO.rowDis (insL l i b)
  by_cases h1 : i = n
  · subst h1
    have z1 : (i + 1) * 136 ≤ 140737488355328 := by omega
    have z2 : i ≤ 140737488355327 := by omega
    have e1 : l.take i = l := List.take_of_length_le (by omega)
    have e2 : insL l i b = l ++ [b] := by simp [insL, e1, List.drop_of_length_le (show l.length ≤ i by omega)]
    rw [e1] at hsrc
    rw [e2] at htr hil hle hds ⊢
    simp [hsrc, hsb, -asrc, z1, z2, hds, ← rowC_app, -List.all_eq_true, hle0, hle]
  · have h1' : ¬ ((i:Int) = n) := by omega
    have hsrc2 : ∀ X, asrc (rowC ceO l :: X) (.osl 0 (i * 15) (n - i) (some (n - i)) 15) = some (15, n - i, rowC ceO (l.drop i)) := by
      intro X
      unfold asrc
      simp only [show ¬ n - i = 0 by omega, if_false, List.getElem?_cons_zero, Option.bind_some]
      rw [if_pos (by rw [hfl]; omega), eO.rowDrop, List.take_of_length_le (by rw [eO.rowLen]; simp; omega)]
    have hp0 : (0 : Int) ≤ (i : Int) + 1 := by omega
    have hp1 : 0 < (n + 1) * 15 := by omega
    have hi1 : i ≤ n + 1 := by omega
    have hnat : ((n : Int) + 1 - i).toNat = n + 1 - i := by omega
    have hti : (rowC ceO (l.take i)).length = i * 15 := by rw [eO.rowLen, List.length_take]; congr 1; omega
    have hdr : (rowC ceO (l.drop i)).length = (n - i) * 15 := by rw [eO.rowLen, List.length_drop, hn]
    have hbt : (rowC ceO [b]).take 15 = rowC ceO [b] := List.take_of_length_le (by rw [hbl]; exact Nat.le_refl _)
    have hLL : (rowC ceO (insL l i b)).length = (n + 1) * 15 := by rw [eO.rowLen, hil, hn]
    have hdr2 : (rowC ceO (l.drop i)).take ((n - i) * 15) = rowC ceO (l.drop i) := List.take_of_length_le (by rw [hdr]; omega)
    have h2' : ((n:Int) < n + 1) := by omega
    have y1 : (i : Int) ≤ n + 1 := by omega
    have y2 : ((n : Int) + 1 - i) * 136 ≤ 281474976710656 := by omega
    have y3 : (n + 1) * 136 ≤ 140737488355328 := by omega
    have y4 : n ≤ 140737488355327 := by omega
    have m1 : ¬ n + 1 - i = 0 := by omega
    have m2 : min 1 (n + 1 - i) = 1 := by omega
    have m3 : min (n - i) (n - i) = n - i := by omega
    have m4 : ¬ n - i = 0 := by omega
    have m5 : n + 1 - (i + 1) = n - i := by omega
    have m6 : (n + 1 - i) * 15 - 15 - (l.length - i) * 15 = 0 := by omega
    have hset1 := eO.setFlat (l.take i) i (by simp; omega) (List.replicate ((n + 1 - i) * 15) AVal.undef) [b] (by simp; omega)
    have hset2 := eO.setFlat (l.take i ++ [b]) (i + 1) (by simp; omega) (List.replicate ((n + 1 - i) * 15 - 15) AVal.undef) (l.drop i) (by simp; omega)
    have hins : l.take i ++ [b] ++ l.drop i = insL l i b := by simp [insL]
    rw [hins] at hset2
    have hft1 : i * 15 + 15 ≤ i * 15 + (n + 1 - i) * 15 := by omega
    have hft2 : i + 1 ≤ n + 1 := by omega
    have hft3 : (i + 1) * 15 + (n - i) * 15 ≤ i * 15 + (n + 1 - i) * 15 := by omega
    have hft4 : (i + 1) * 15 + (n - i) * 15 ≤ (rowC ceO (l.take i ++ [b])).length + ((n + 1 - i) * 15 - 15) := by rw [eO.rowLen]; simp; omega
    simp [hp0, hp1, y1, y2, y3, y4, m1, m2, m3, m4, m5, m6, hbt, hset1, hset2, hft1, hft2, hft3, hti, hft4, htr, hdr, hdr2, hLL, hi, hi1, h1, h1', h2', w1, w2, w3, hsrc, hsrc2, hsb, -asrc, -setR, hds, eO.rowDis, eO.rowScalar, -List.all_eq_true, hnat, hle0, hle]
set_option maxHeartbeats 4000000 in
set_option maxRecDepth 10000 in
theorem f85z (b : Option Lsa) : CFun Try.prog 85 [.sl 15 [] .full, .int .i64 0, .sl 15 [.agg (ceO b)] .sh] [] (.osl 0 0 1 none 15) [rowC ceO [b]] := by
  refine CFun.intro (tr := [100025, 100040]) (fz := []) (n := 95) (rs := [.tmp 6]) Try.func85 rfl (by kernel_rfl) rfl rfl mixed (by kernel_rfl) (by simp) (by simp) ?_
  have hds := eO.rowDis [b]
  have hle := eO.rowLe 1 [b]
  rw [rowC_one] at hds hle ⊢
  simp [hds, hle]
/-- A contract about one variable that makes another, at any place of the caller's. -/
theorem atNew {P : Program} {f : FuncId} {args : List AVal} {x : AVal} {cs cs' c2 : List AVal} (h : CFun P f args [cs] x [cs', c2]) {H : List (List AVal)} {id : Nat} (hid : H[id]? = some cs) (hcs : cs.all noid0 = true) (hcs' : cs'.all noid0 = true) (hc2 : c2.all noid0 = true)
    (ha : args.all (low 1) = true) (hx : low 2 x = true) : CFun P f (args.map (ren fun _ => id)) H (ren (grow (fun _ => id) 1 H.length) x) (H.set id cs' ++ [c2]) := by
  have hlt : id < H.length := (List.getElem?_eq_some_iff.1 hid).1
  refine h.lift (fun _ => id) (H := H) (H' := H.set id cs' ++ [c2]) (fun _ _ => hlt) (fun i j hi hj _ => by simp at hi hj; omega) (fun i c hc => ?_) ha (by simp) (fun i c hc => ?_) (fun j hj hne => ?_) hx
  · cases i with
    | zero => simp at hc; subst hc; exact ⟨by rw [noid0_map hcs]; exact hid, noid0_alllow hcs⟩
    | succ i => simp at hc
  · cases i with
    | zero =>
      simp at hc; subst hc
      refine ⟨?_, noid0_alllow hcs'⟩
      rw [noid0_map hcs']
      simp only [grow, List.length_singleton, Nat.zero_lt_one, if_true]
      rw [List.getElem?_append_left (by simpa using hlt)]
      simp [hlt]
    | succ i =>
      cases i with
      | zero =>
        simp at hc; subst hc
        refine ⟨?_, noid0_alllow hc2⟩
        rw [noid0_map hc2]
        simp [grow]
      | succ i => simp at hc
  · have := hne 0 (by simp)
    rw [List.getElem?_append_left (by simpa using hj), List.getElem?_set]
    simp [this]
-- lsdb.Put
set_option maxHeartbeats 8000000 in
set_option maxRecDepth 10000 in
theorem f26 (l : List Lsa) (n : Nat) (hn : l.length = n) (hlen : n < 1000000000) (hs : asc l) (ok : ∀ x ∈ l, okL x) (b : Lsa) (okb : okL b) : CFun Try.prog 26 [.sl 15 (l.map encA) .sh, encA b] [] (.tup [.sl 15 ((putD l b).1.map encA) .sh, .int .i64 (putD l b).2]) [] := by
  refine CFun.intro (tr := []) (fz := [(4, 1, true), (4, 2, true)]) (n := 45) (rs := [.tmp 4, .tmp 5]) Try.func26 rfl (by kernel_rfl) rfl rfl mixed (by kernel_rfl) (by simp) (by simp) ?_
  have h81 := fun H => (f81 b).up' H rfl rfl
  have h62 := fun H => (c25 b.H).up' H rfl rfl
  have h82 := fun H => (f82 l n hn (by omega) hs (keyA b)).up' H rfl rfl
  have h86 := fun H => (f86 b okb).up' H rfl rfl
  have hke : encY (keyH b.H) = encY (keyA b) := rfl
  rw [hke] at h62
  simp
  refine ⟨_, _, .inl (by simpa using h81 _), by simp, ?_⟩
  by_cases e0 : sealE b = 0
  case neg => simp [e0, putD]
  simp [e0]
  refine ⟨_, _, .inl (by simpa using h62 _), by simp, ?_⟩
  simp
  refine ⟨_, _, .inl (by simpa using h82 _), by simp, ?_⟩
  have hpl := pos_le l (keyA b)
  have hput : putD l b = if fndD l (keyA b) = false ∧ 2000 ≤ l.length then ([], 8) else (putR l b, 0) := by simp [putD, e0]
  have hR : putR l b = if fndD l (keyA b) = true then l.set (posD l (keyA b)) b else insL l (posD l (keyA b)) b := rfl
  have hfl : fndD l (keyA b) = true → posD l (keyA b) < n := by
    intro h
    unfold fndD at h
    split at h
    · rename_i x hx
      have := (List.getElem?_eq_some_iff.1 hx).1
      omega
    · cases h
  rw [hput, hR]
  generalize posD l (keyA b) = p at hpl hfl ⊢
  generalize fndD l (keyA b) = fd at hfl ⊢
  have hn0 : (2000 : Int) ≤ n ↔ 2000 ≤ n := by omega
  have hn00 : l = [] → fd = false ∧ p = 0 := fun e => by
    subst e
    have hp0 : p = 0 := by simpa using hpl
    refine ⟨?_, hp0⟩
    cases fd
    · rfl
    · have := hfl rfl
      simp at hn
      omega
  by_cases hfull : fd = false ∧ 2000 ≤ n
  · rw [if_pos (by rw [hn]; exact hfull)]
    obtain ⟨rfl, hf⟩ := hfull
    simp [hn, hn0, hf]
  rw [if_neg (by rw [hn]; exact hfull)]
  by_cases hl : l = []
  · obtain ⟨rfl, rfl⟩ := hn00 hl
    subst hl
    simp at hn
    subst hn
    have h84 := fun H => f84z.up' H rfl rfl
    have h85 := ((f85z none).wk [.sl 15 [] .full, .int .i64 0, .sl 15 [.agg zA] .full] (by simp) (by simp [zA, ceO])).upNew [cellsA b] (eO.rowNoid [none]) rfl rfl
    have hset := eO.setOne0 [none] 0 (some b) (by simp)
    have hb0 : ceO (some b) = cellsA b := rfl
    have hrs := row_some [b]
    rw [hb0, List.set_cons_zero] at hset
    simp only [List.map_cons, List.map_nil] at hrs
    rw [hrs] at hset
    simp only [zA] at h85
    have hle := eA'.rowLe 2 [b]
    have hch := ch_A [b] 1 rfl
    have htr := eA'.rowTree [b]
    have hL := eA'.rowLen [b]
    have hL0 := eO.rowLen [none]
    simp only [cellsA] at hset
    simp
    refine ⟨_, _, .inl (by simpa using h84 _), by simp, ?_⟩
    simp
    simp only [ren, ren0] at h85
    refine ⟨_, _, .inl (by simpa [cargs] using h85), by simp, ?_⟩
    simp
    refine ⟨_, _, .inl (by simpa using h86 _), by simp, ?_⟩
    have hLb : (rowC ceA [b]).length = 15 := by rw [hL]; rfl
    have hL0b : (rowC ceO [none]).length = 15 := by rw [hL0]; rfl
    have htk : (rowC ceA [b]).take 15 = rowC ceA [b] := List.take_of_length_le (by omega)
    have hset' := hset
    simp only [Nat.zero_mul] at hset'
    have hins : insL [] 0 b = [b] := rfl
    simp [hset', hL0b, hLb, htk, hch, htr, hins, -setR, -List.all_eq_true, -encA]
  · have h84 := (cp_row l (by omega) hl ok).upNew [cellsA b] (eA'.rowNoid l) rfl rfl
    simp only [ren, ren0, hn] at h84
    have hpos : 0 < n := by
      have := List.length_pos_iff.2 hl
      omega
    have hb0 : ceA b = cellsA b := rfl
    cases fd
    · have hil := insL_len (b := b) (l := l) (i := p) hpl
      have h85 := atNew ((f85 (l.map some) p n (by simpa using hn) (by omega) (by omega) hpos none).wk [.osl 0 0 n (some n) 15, .int .i64 p, .sl 15 [.agg zA] .full] (by simp) (by simp [zA, ceO])) (H := [cellsA b, rowC ceA l]) (id := 1) (by rw [row_some]; rfl) (eO.rowNoid _) (eO.rowNoid _) (eO.rowNoid _) (by simp [low, low0, zA]) (by simp [low, low0])
      have hset := eO.setOne0 (insL (l.map some) p none) p (some b) (by rw [insL_len (by simpa using hpl)]; simp; omega)
      have hb0' : ceO (some b) = cellsA b := rfl
      rw [ins_set l p hpl, row_some, hb0'] at hset
      have hfl2 := eO.rowLen (insL (l.map some) p none)
      rw [insL_len (by simpa using hpl), List.length_map, hn] at hfl2
      have hfit : p * 15 + 15 ≤ (n + 1) * 15 := by omega
      have hp : p < n + 1 := by omega
      have hch := ch_A (insL l p b) (n + 1) (by omega)
      have htr := eA'.rowTree (insL l p b)
      have hL := eA'.rowLen (insL l p b)
      rw [hil, hn] at hL
      have htk : (rowC ceA (insL l p b)).take ((n + 1) * 15) = rowC ceA (insL l p b) := List.take_of_length_le (by omega)
      have hpos1 : 0 < (n + 1) * 15 := by omega
      simp only [cellsA] at hset
      simp [grow, ren, ren0, zA, row_some] at h85
      have hf : ¬ 2000 ≤ n := fun q => hfull ⟨rfl, q⟩
      have hf' : ¬ (2000 : Int) ≤ n := fun q => hf (hn0.1 q)
      simp [hn, hf, hf']
      refine ⟨_, _, .inl (by simpa [cargs] using h84), by simp, ?_⟩
      simp
      refine ⟨_, _, .inl (by simpa [cargs] using h85), by simp, ?_⟩
      simp
      refine ⟨_, _, .inl (by simpa using h86 _), by simp, ?_⟩
      have hpI : (p : Int) < (n : Int) + 1 := by omega
      simp [hp, hpI, hset, hfl2, hfit, hL, htk, hch, htr, hpos, hpos1, -setR, -List.all_eq_true, -encA]
      try rfl
    · have hp := hfl rfl
      have hset := eA'.setOne0 l p b (by omega)
      rw [hb0] at hset
      simp only [cellsA] at hset
      have hfl2 := eA'.rowLen l
      have hfit : p * 15 + 15 ≤ n * 15 := by omega
      have hch := ch_A (l.set p b) n (by simpa using hn)
      have htr := eA'.rowTree (l.set p b)
      have hL := eA'.rowLen (l.set p b)
      rw [List.length_set, hn] at hL
      rw [hn] at hfl2
      have htk : (rowC ceA (l.set p b)).take (n * 15) = rowC ceA (l.set p b) := List.take_of_length_le (by omega)
      simp
      refine ⟨_, _, .inl (by simpa [cargs] using h84), by simp, ?_⟩
      simp
      refine ⟨_, _, .inl (by simpa using h86 _), by simp, ?_⟩
      simp [hp, hset, hfl2, hfit, hL, htk, hch, htr, hpos, -setR, -List.all_eq_true, -encA]
      rfl
end Go.Proofs.Ytmgkemffbmfmpaa

namespace Go.Proofs.Ytmgkemffbmfmpaa
open Go Go.Am

-- routingref25.Insert
def insW (b : Lsa) : Bool → List Lsa → List Lsa
  | done, [] => if done = true then [] else [b]
  | done, x :: xs => (if done = false ∧ cmpY (keyA b) (keyA x) ≤ 0 then [b] else []) ++ ((if cmpY (keyA b) (keyA x) ≠ 0 then [x] else []) ++ insW b (done || decide (cmpY (keyA b) (keyA x) ≤ 0)) xs)
theorem ldH (x : Lsa) : aload (some (true, 7)) (cellsA x) 0 = some (encH x.H) := by simp
theorem ldA (x : Lsa) : aload (some (true, 15)) (cellsA x) 0 = some (.agg (cellsA x)) := by simp
theorem lenA (x : Lsa) : (cellsA x).length = 15 := rfl
theorem disA (x : Lsa) : (cellsA x).map AVal.dis = cellsA x := rfl
theorem insW_true (b : Lsa) : ∀ xs : List Lsa, (∀ x ∈ xs, keyA b ≠ keyA x) → insW b true xs = xs := by
  intro xs
  induction xs with
  | nil => intro _; rfl
  | cons x xs ih =>
    intro h
    have h1 : cmpY (keyA b) (keyA x) ≠ 0 := fun e => h x (by simp) ((cmpY_zero _ _).1 e)
    simp only [insW]
    rw [if_neg (by simp), if_pos h1, Bool.true_or, ih fun y hy => h y (List.mem_cons_of_mem _ hy)]
    rfl
theorem insW_put (b : Lsa) : ∀ {xs : List Lsa}, asc xs → insW b false xs = putW b xs := by
  intro xs
  induction xs with
  | nil => intro _; rfl
  | cons x xs ih =>
    intro h
    simp only [asc, List.pairwise_cons] at h
    simp only [insW, putW, Bool.false_or]
    by_cases h1 : ltY (keyA b) (keyA x)
    · have h1' : cmpY (keyA b) (keyA x) < 0 := h1
      rw [if_pos h1, if_pos ⟨trivial, by omega⟩, if_pos (by omega), decide_eq_true (by omega), insW_true]
      · rfl
      · intro y hy
        exact ltY_ne (ltY_trans h1 (h.1 y hy))
    · have h1' : ¬ cmpY (keyA b) (keyA x) < 0 := h1
      rw [if_neg h1]
      by_cases h2 : keyA b = keyA x
      · have e : cmpY (keyA b) (keyA x) = 0 := (cmpY_zero _ _).2 h2
        rw [if_pos h2, e, if_pos ⟨trivial, by omega⟩, if_neg (by omega), decide_eq_true (by omega), insW_true]
        · rfl
        · intro y hy
          rw [h2]
          exact ltY_ne (h.1 y hy)
      · have e : cmpY (keyA b) (keyA x) ≠ 0 := fun q => h2 ((cmpY_zero _ _).1 q)
        rw [if_neg h2, if_neg (by omega), if_pos e, decide_eq_false (by omega), ih h.2]
        rfl
set_option maxHeartbeats 1000000 in
set_option maxRecDepth 10000 in
theorem f88 (l : List Lsa) (n : Nat) (hn : l.length = n) (hlen : n < 100000000) (b : Lsa) : CFun Try.prog 88 [.sl 15 (l.map encA) .sh, encA b] [] (.sl 15 ((insW b false l).map encA) .sh) [] := by
  refine CFun.intro (tr := [47]) (fz := []) (n := 52) (rs := [.tmp 4]) Try.func88 rfl (by kernel_rfl) rfl rfl mixed (by kernel_rfl) (by simp) (by simp) ?_
  simp
  refine LoopK.intro (tr := [32, 38]) mixed (by kernel_rfl) (fun q : Nat × Bool × List Lsa => [(0, .sl 15 (l.map encA) .sh), (3, .ptr 0 0), (5, .sl 15 (q.2.2.map encA) .own), (6, .bool q.2.1), (7, .int .i64 q.1)]) (fun _ => [cellsA b])
    (fun q => q.1 ≤ n ∧ q.2.2.length ≤ 2 * q.1 ∧ q.2.2 ++ insW b q.2.1 (l.drop q.1) = insW b false l) (fun q => n - q.1) (0, false, []) ?_ ?_ ?_
  · simp
  · simp
  · rintro ⟨i, d, o⟩ ⟨h1, h3, h2⟩
    simp only at h1 h2 h3
    have ho : o.length ≤ 200000000 := by omega
    by_cases hi : i < n
    · have s1 : o.length + 1 ≤ 140737488355328 := Nat.le_trans (Nat.succ_le_succ ho) (by decide)
      have s2 : (o.length + 1) * 136 ≤ 140737488355328 := Nat.le_trans (Nat.mul_le_mul_right 136 (Nat.succ_le_succ ho)) (by decide)
      have s3 : o.length + 1 + 1 ≤ 140737488355328 := Nat.le_trans (Nat.succ_le_succ (Nat.succ_le_succ ho)) (by decide)
      have s4 : (o.length + 1 + 1) * 136 ≤ 140737488355328 := Nat.le_trans (Nat.mul_le_mul_right 136 (Nat.succ_le_succ (Nat.succ_le_succ ho))) (by decide)
      obtain ⟨x, hx, hd⟩ := get_drop (l := l) (i := i) (by omega)
      rw [hd] at h2
      have w1 : IntKind.i64.wrap ((i : Int) + 1) = i + 1 := wrap_in (by omega)
      have hb := fun H => (c26 b.H).up' H rfl rfl
      have hK := fun H => (c26 x.H).up' H rfl rfl
      have hC := fun H => (c28 (keyH b.H) (keyH x.H)).up' H rfl rfl
      have hkk : cmpY (keyA b) (keyA x) = cmpY (keyH b.H) (keyH x.H) := rfl
      simp only [insW, hkk] at h2
      generalize keyH b.H = kb at hb hC h2
      generalize keyH x.H = kx at hK hC h2
      clear hd
      simp [hi, hn, hx, gE hx, ldH, ldA, lenA, disA, -cellsA, -aload]
      refine ⟨_, _, .inl (by simpa [-cellsA] using hb _), by simp, ?_⟩
      simp [hi, hn, hx, gE hx, ldH, ldA, lenA, disA, -cellsA, -aload]
      refine ⟨_, _, .inl (by simpa [-cellsA] using hK _), by simp, ?_⟩
      simp [-cellsA]
      refine ⟨_, _, .inl (by simpa [-cellsA] using hC _), by simp, ?_⟩
      generalize cmpY kb kx = c at h2
      cases d
      · by_cases e1 : c ≤ 0
        · rw [if_pos ⟨rfl, e1⟩, decide_eq_true e1] at h2
          by_cases e2 : c = 0
          · rw [if_neg (by simpa [-cellsA] using e2)] at h2
            subst e2
            simp [s1, s2, w1, ldA, lenA, disA, -cellsA, -aload]
            exact ⟨i + 1, o ++ [b], ⟨by omega, by simp; omega, by simpa [-cellsA] using h2⟩, by omega, by simp⟩
          · rw [if_pos e2] at h2
            simp [e1, e2, s1, s2, s3, s4, w1, hi, hn, hx, gE hx, ldA, lenA, disA, -cellsA, -aload]
            exact ⟨i + 1, o ++ [b] ++ [x], ⟨by omega, by simp; omega, by simpa [-cellsA] using h2⟩, by omega, by simp⟩
        · have e2 : c ≠ 0 := by omega
          rw [if_neg (by simp [e1]), decide_eq_false e1, if_pos e2] at h2
          simp [e1, e2, s1, s2, w1, hi, hn, hx, gE hx, ldA, lenA, disA, -cellsA, -aload]
          exact ⟨i + 1, o ++ [x], ⟨by omega, by simp; omega, by simpa [-cellsA] using h2⟩, by omega, by simp⟩
      · rw [if_neg (by simp), Bool.true_or] at h2
        by_cases e2 : c = 0
        · rw [if_neg (by simpa [-cellsA] using e2)] at h2
          simp [e2, w1]
          exact ⟨i + 1, o, ⟨by omega, by omega, by simpa [-cellsA] using h2⟩, by omega, by simp⟩
        · rw [if_pos e2] at h2
          simp [e2, s1, s2, w1, hi, hn, hx, gE hx, ldA, lenA, disA, -cellsA, -aload]
          exact ⟨i + 1, o ++ [x], ⟨by omega, by simp; omega, by simpa [-cellsA] using h2⟩, by omega, by simp⟩
    · have : i = n := by omega
      subst this
      rw [List.drop_eq_nil_of_le (by omega)] at h2
      have s1 : o.length + 1 ≤ 140737488355328 := by omega
      have s2 : (o.length + 1) * 136 ≤ 140737488355328 := by omega
      cases d
      · simp [insW] at h2
        simp [hn, s1, s2, ← h2, ldA, lenA, disA, -cellsA, -aload]
      · simp [insW] at h2
        simp [hn, ← h2]
end Go.Proofs.Ytmgkemffbmfmpaa

namespace Go.Proofs.Ytmgkemffbmfmpaa
open Go Go.Am

theorem idx_fnd {l : List Lsa} (h : asc l) (k : LKey) : (idxL (hasK k) l 0 < 0) ↔ fndD l k = false := by
  rw [find_fnd h]
  rcases idxL_find (hasK k) l 0 with ⟨h1, h2, _⟩ | ⟨i, x, h1, h2, h3⟩
  · simp [h1, h2]
  · have : l.find? (hasK k) = some x := by
      first | exact h3 | exact h3.1
    rw [h1, this]
    simp
-- routingref25.Put
set_option maxHeartbeats 8000000 in
set_option maxRecDepth 10000 in
theorem f27 (l : List Lsa) (n : Nat) (hn : l.length = n) (hlen : n < 100000000) (hs : asc l) (b : Lsa) (okb : okA b) : CFun Try.prog 27 [.sl 15 (l.map encA) .sh, encA b] [] (.tup [.sl 15 ((putD l b).1.map encA) .sh, .int .i64 (putD l b).2]) [] := by
  refine CFun.intro (tr := []) (fz := []) (n := 29) (rs := [.tmp 4, .tmp 5]) Try.func27 rfl (by kernel_rfl) rfl rfl mixed (by kernel_rfl) (by simp) (by simp) ?_
  have h33 := fun H => (c14 b okb).up' H rfl rfl
  have hK := fun H => (c26 b.H).up' H rfl rfl
  have h87 := fun H => (f87 l n hn (by omega) (keyA b)).up' H rfl rfl
  have h88 := fun H => (f88 l n hn hlen b).up' H rfl rfl
  rw [insW_put b hs, ← putW_R b hs] at h88
  have hke : encY (keyH b.H) = encY (keyA b) := rfl
  rw [hke] at hK
  have hse := encL_cases b
  simp
  refine ⟨_, _, .inl (by simpa using h33 _), by simp, ?_⟩
  by_cases e0 : chkA b = 0
  case neg =>
    rw [if_pos e0] at hse
    have hp : putD l b = ([], chkA b) := by simp [putD, hse, e0]
    simp [e0, hp]
  have hl := chkA_len e0
  have h34 := fun H => (c22 b hl.1 hl.2).up' H rfl rfl
  rw [if_neg (by simpa using e0)] at hse
  simp [e0]
  refine ⟨_, _, .inl (by simpa using h34 _), by simp, ?_⟩
  by_cases e1 : b.H.Sum = sumA b
  case neg =>
    rw [if_neg e1] at hse
    have hp : putD l b = ([], 13) := by simp [putD, hse]
    simp [e1, hp]
  rw [if_pos e1] at hse
  simp [e1]
  refine ⟨_, _, .inl (by simpa [e1] using hK _), by simp, ?_⟩
  simp
  refine ⟨_, _, .inl (by simpa using h87 _), by simp, ?_⟩
  have hif := idx_fnd hs (keyA b)
  have hp : putD l b = if fndD l (keyA b) = false ∧ 2000 ≤ n then ([], 8) else (putR l b, 0) := by simp [putD, hse, hn]
  rw [hp]
  by_cases e2 : idxL (hasK (keyA b)) l 0 < 0
  · by_cases e3 : 2000 ≤ n
    · have e3' : (2000 : Int) ≤ n := by omega
      rw [if_pos ⟨hif.1 e2, e3⟩]
      simp [e2, e3', hn]
    · have e3' : ¬ (2000 : Int) ≤ n := by omega
      rw [if_neg (by simp [e3])]
      simp [e2, e3', hn]
      refine ⟨_, _, .inl (by simpa [e1] using h88 _), by simp, ?_⟩
      simp
  · rw [if_neg (by rw [← hif]; simp [e2])]
    simp [e2]
    refine ⟨_, _, .inl (by simpa [e1] using h88 _), by simp, ?_⟩
    simp
end Go.Proofs.Ytmgkemffbmfmpaa

namespace Go.Proofs.Ytmgkemffbmfmpaa
open Go Go.Am

-- routingref25.Keys
set_option maxHeartbeats 4000000 in
set_option maxRecDepth 10000 in
theorem f31 (a b : List LKey) (n m : Nat) (hn : a.length = n) (hm : b.length = m) (hlen : n < 8796093022208) : CFun Try.prog 31 [.sl 4 (a.map encY) .sh, .sl 4 (b.map encY) .sh] [] (.bool (decide (a = b))) [] := by
  refine CFun.intro (tr := []) (fz := []) (n := 26) (rs := [.tmp 4]) Try.func31 rfl (by kernel_rfl) rfl rfl mixed (by kernel_rfl) (by simp) (by simp) ?_
  by_cases hnm : n = m
  case neg =>
    have : a ≠ b := by rintro rfl; exact hnm (hn.symm.trans hm)
    have hnm' : ¬ (n : Int) = m := by omega
    simp [hn, hm, hnm', this]
  subst hnm
  simp [hn, hm]
  refine LoopK.intro (tr := []) mixed (by kernel_rfl) (fun i : Nat => [(0, .sl 4 (a.map encY) .sh), (1, .sl 4 (b.map encY) .sh), (5, .int .i64 i)]) (fun _ => []) (fun i => i ≤ n ∧ (a = b ↔ a.drop i = b.drop i)) (fun i => n - i) 0 ?_ ?_ ?_
  · simp
  · simp
  · rintro i ⟨h1, h2⟩
    by_cases hi : i < n
    · obtain ⟨r, hx, hd⟩ := get_drop (l := a) (i := i) (by omega)
      obtain ⟨t, hy, he⟩ := get_drop (l := b) (i := i) (by omega)
      rw [hd, he, List.cons.injEq] at h2
      have w1 : IntKind.i64.wrap ((i : Int) + 1) = i + 1 := wrap_in (by omega)
      clear hd he
      by_cases hrt : r = t
      · subst hrt
        simp [hn, hm, hi, hx, hy, gE hx, gE hy, w1]
        exact ⟨i + 1, ⟨by omega, by simpa using h2⟩, by omega, by simp⟩
      · have hne : ¬ (a = b) := by rw [h2]; simp [hrt]
        have hor : ¬ r.Ty = t.Ty ∨ ¬ r.ID = t.ID ∨ ¬ r.Len = t.Len ∨ ¬ r.Router = t.Router := by
          refine Decidable.byContradiction fun q => hrt ?_
          simp only [not_or, Decidable.not_not] at q
          cases r; cases t; simp_all
        simp [hn, hm, hi, hx, hy, gE hx, gE hy, hor, hne]
    · have e : a.drop i = [] := List.drop_of_length_le (by omega)
      have e' : b.drop i = [] := List.drop_of_length_le (by omega)
      rw [e, e'] at h2
      have : i = n := by omega
      subst this
      simp [hn, h2]
-- routingref24.SameHeaders
set_option maxHeartbeats 4000000 in
set_option maxRecDepth 10000 in
theorem f42 (a b : List Hdr) (n m : Nat) (hn : a.length = n) (hm : b.length = m) (hlen : n < 8796093022208) : CFun Try.prog 42 [.sl 7 (a.map encH) .sh, .sl 7 (b.map encH) .sh] [] (.bool (decide (a = b))) [] := by
  refine CFun.intro (tr := []) (fz := []) (n := 26) (rs := [.tmp 4]) Try.func42 rfl (by kernel_rfl) rfl rfl mixed (by kernel_rfl) (by simp) (by simp) ?_
  by_cases hnm : n = m
  case neg =>
    have : a ≠ b := by rintro rfl; exact hnm (hn.symm.trans hm)
    have hnm' : ¬ (n : Int) = m := by omega
    simp [hn, hm, hnm', this]
  subst hnm
  simp [hn, hm]
  refine LoopK.intro (tr := []) mixed (by kernel_rfl) (fun i : Nat => [(0, .sl 7 (a.map encH) .sh), (1, .sl 7 (b.map encH) .sh), (5, .int .i64 i)]) (fun _ => []) (fun i => i ≤ n ∧ (a = b ↔ a.drop i = b.drop i)) (fun i => n - i) 0 ?_ ?_ ?_
  · simp
  · simp
  · rintro i ⟨h1, h2⟩
    by_cases hi : i < n
    · obtain ⟨r, hx, hd⟩ := get_drop (l := a) (i := i) (by omega)
      obtain ⟨t, hy, he⟩ := get_drop (l := b) (i := i) (by omega)
      rw [hd, he, List.cons.injEq] at h2
      have w1 : IntKind.i64.wrap ((i : Int) + 1) = i + 1 := wrap_in (by omega)
      clear hd he
      by_cases hrt : r = t
      · subst hrt
        simp [hn, hm, hi, hx, hy, gE hx, gE hy, w1]
        exact ⟨i + 1, ⟨by omega, by simpa using h2⟩, by omega, by simp⟩
      · have hne : ¬ (a = b) := by rw [h2]; simp [hrt]
        have hor : ¬ r.Ty = t.Ty ∨ ¬ r.ID = t.ID ∨ ¬ r.Len = t.Len ∨ ¬ r.Router = t.Router ∨ ¬ r.Seq = t.Seq ∨ ¬ r.Age = t.Age ∨ ¬ r.Sum = t.Sum := by
          refine Decidable.byContradiction fun q => hrt ?_
          simp only [not_or, Decidable.not_not] at q
          cases r; cases t; simp_all
        simp [hn, hm, hi, hx, hy, gE hx, gE hy, hor, hne]
    · have e : a.drop i = [] := List.drop_of_length_le (by omega)
      have e' : b.drop i = [] := List.drop_of_length_le (by omega)
      rw [e, e'] at h2
      have : i = n := by omega
      subst this
      simp [hn, h2]
end Go.Proofs.Ytmgkemffbmfmpaa
