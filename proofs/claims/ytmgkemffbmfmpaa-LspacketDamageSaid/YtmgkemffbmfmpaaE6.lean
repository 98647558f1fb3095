import Derived.Test.YtmgkemffbmfmpaaE2
set_option linter.unusedSimpArgs false
set_option linter.unusedVariables false
namespace Go.Proofs.Ytmgkemffbmfmpaa
open Go Go.Am

/-- What make lays. -/
def zA : List AVal := [.int .i64 0, .int .u32 0, .int .i64 0, .int .u32 0, .int .i64 0, .int .i64 0, .int .i64 0, .bool false, .bool false, .sl 0 [] .full, .sl 0 [] .full, .int .i64 0, .bool false, .int .u32 0, .int .i64 0]
/-- lsdb.copied -/
theorem zA_le (m : Nat) : ∀ n, LeCells m ((List.replicate n zA).flatten) (rowC cellsA (List.replicate n lsa0)) := by
  intro n
  induction n with
  | zero => trivial
  | succ n ih =>
    rw [List.replicate_succ, List.replicate_succ, List.flatten_cons, rowC_cons]
    exact LeCells_app (by simp [zA, lsa0]) rfl ih
def cpy (l : List Lsa) (i : Nat) : List Lsa := l.take i ++ List.replicate (l.length - i) lsa0
theorem cpy_len (l : List Lsa) (i : Nat) (h : i ≤ l.length) : (cpy l i).length = l.length := by simp [cpy]; omega
theorem cpy_set {l : List Lsa} {i : Nat} {x : Lsa} (h : l[i]? = some x) : (cpy l i).set i x = cpy l (i + 1) := by
  have hi := (List.getElem?_eq_some_iff.1 h).1
  have hl : (l.take i).length = i := by simp; omega
  unfold cpy
  rw [List.set_append_right _ _ (by omega), hl, Nat.sub_self, List.take_add_one, h]
  obtain ⟨q, hq⟩ : ∃ q, l.length - i = q + 1 := ⟨l.length - i - 1, by omega⟩
  rw [hq, show l.length - (i + 1) = q by omega, List.replicate_succ]
  simp
set_option maxHeartbeats 4000000 in
set_option maxRecDepth 10000 in
theorem f84 (l : List Lsa) (n : Nat) (hn : l.length = n) (h0 : 0 < n) (hlen : n < 1034834473201) (ok : ∀ x ∈ l, okL x) : CFun Try.prog 84 [.sl 15 (l.map encA) .sh] [] (.osl 0 0 n (some n) 15) [rowC cellsA l] := by
  refine CFun.intro (tr := [100008]) (fz := []) (n := 28) (rs := [.tmp 2]) Try.func84 rfl (by kernel_rfl) rfl rfl mixed (by kernel_rfl) (by simp) (by simp) ?_
  have s0 : 136 * n ≤ 281474976710656 := by omega
  have s1 : (n : Int) ≤ 9223372036854775807 := by omega
  have hz := zA_le 1 n
  simp only [zA] at hz
  simp [hn, s0, s1, h0]
  refine LoopK.intro (tr := []) mixed (by kernel_rfl) (fun i : Nat => [(3, .osl 0 0 n (some n) 15), (9, .sl 15 (l.map encA) .sh), (10, .int .i64 n), (11, .int .i64 i)]) (fun i => [rowC cellsA (cpy l i)]) (fun i => i ≤ n) (fun i => n - i) 0 ?_ ?_ ?_
  · simp
  · simp [cpy, hn]
    exact hz
  · rintro i h1
    by_cases hi : i < n
    · obtain ⟨x, hx, hd⟩ := get_drop (l := l) (i := i) (by omega)
      have h86 := fun H => (f86 x (ok x (List.mem_of_getElem? hx))).up' H rfl rfl
      have hset := eA.setOne0 (cpy l i) i x (by rw [cpy_len l i (by omega)]; omega)
      rw [cpy_set hx] at hset
      have hfl := eA.rowLen (cpy l i)
      rw [cpy_len l i (by omega), hn] at hfl
      have hfit : i * 15 + 15 ≤ n * 15 := by omega
      have hle := eA.rowLe 1 (cpy l (i + 1))
      have w1 : IntKind.i64.wrap ((i : Int) + 1) = i + 1 := wrap_in (by omega)
      clear hd
      simp only [cellsA] at hset
      simp [hi, hx, -setR]
      refine ⟨_, _, .inl (h86 _), by simp, ?_⟩
      simp [hi, hfl, hfit, hset, w1, -setR]
      exact ⟨i + 1, by omega, by omega, by simpa using hle⟩
    · have : i = n := by omega
      subst this
      have e : cpy l i = l := by simp [cpy, hn, List.take_of_length_le (show l.length ≤ i by omega)]
      have hle := eA.rowLe 1 l
      simp [e, hle]
set_option maxHeartbeats 4000000 in
set_option maxRecDepth 10000 in
theorem f84z : CFun Try.prog 84 [.sl 15 [] .sh] [] (.sl 15 [] .full) [] := by
  refine CFun.intro (tr := []) (fz := []) (n := 28) (rs := [.tmp 2]) Try.func84 rfl (by kernel_rfl) rfl rfl mixed (by kernel_rfl) (by simp) (by simp) ?_
  simp
  refine LoopK.intro (tr := []) mixed (by kernel_rfl) (fun i : Nat => [(3, .sl 15 [] .own), (9, .sl 15 [] .sh), (10, .int .i64 0), (11, .int .i64 0)]) (fun i => []) (fun i => True) (fun i => 0) 0 ?_ ?_ ?_
  · simp
  · simp
  · rintro i h1
    simp
end Go.Proofs.Ytmgkemffbmfmpaa

namespace Go.Proofs.Ytmgkemffbmfmpaa
open Go Go.Am

-- The same cells, kept shut.
def ceA (l : Lsa) : List AVal := cellsA l
theorem eA' : Enc ceA 15 := eA

set_option maxHeartbeats 4000000 in
set_option maxRecDepth 10000 in
theorem f97_ix (l : List Lsa) (n : Nat) (hn : l.length = n) (hlen : n < 1099511627776) (p : Lsa → Bool) (f : FuncId) (fs cs : List AVal) (H : List (List AVal)) (hf : low H.length (.fn f fs cs) = true) (hH : LeBoxes H.length H H)
    (hp : ∀ x ∈ l, CFun Try.prog f (fs ++ [.agg (ceA x)] ++ cs) H (.bool (p x)) H) : CFun Try.prog 97 [.sl 15 (l.map fun x => AVal.agg (ceA x)) .sh, .fn f fs cs] H (.int .i64 (idxL p l 0)) H := by
  refine CFun.intro (tr := []) (fz := []) (n := 19) (rs := [.tmp 4]) Try.func97 rfl (by kernel_rfl) rfl rfl mixed (by kernel_rfl) (by simp) (by simp) ?_
  simp
  refine LoopK.intro (tr := []) mixed (by kernel_rfl) (fun i : Nat => [(0, .sl 15 (l.map fun x => AVal.agg (ceA x)) .sh), (1, .fn f fs cs), (7, .int .i64 n), (8, .int .i64 i)]) (fun _ => H) (fun i => i ≤ n ∧ idxL p l 0 = idxL p (l.drop i) i) (fun i => n - i) 0 ?_ ?_ ?_
  · simp
  · simp [hn, hH]
    simpa [low] using hf
  · rintro i ⟨h1, h2⟩
    by_cases hi : i < n
    · obtain ⟨x, hx, hd⟩ := get_drop (l := l) (i := i) (by omega)
      have hpx := hp x (List.mem_of_getElem? hx)
      rw [hd] at h2
      clear hd hn
      have w1 : IntKind.i64.wrap ((i : Int) + 1) = i + 1 := wrap_in (by omega)
      have hl := (eA').len x
      have ht := List.all_eq_true.1 ((eA').tree x)
      have hdis := (eA').dis x
      have htk : (List.take 15 (ceA x)) = ceA x := List.take_of_length_le (by omega)
      simp [hi, hx, hl, ht, hdis, htk]
      refine ⟨_, _, .inl (by simpa [cargs] using hpx), by simp, ?_⟩
      simp only [idxL] at h2
      by_cases hpb : p x = true
      · simp [hpb, hH, h2]
      · rw [if_neg hpb] at h2
        simp [hpb, w1, hH]
        refine ⟨i + 1, ⟨by omega, h2⟩, by omega, ?_⟩
        simp
        simpa [low] using hf
    · have : i = n := by omega
      subst this
      rw [List.drop_eq_nil_of_le (by omega)] at h2
      simp [h2, idxL, hH]

set_option maxHeartbeats 4000000 in
set_option maxRecDepth 10000 in
theorem f97_ixr (l : List Lsa) (rest : List AVal) (n : Nat) (hn : l.length = n) (hlen : n < 1099511627776) (p : Lsa → Bool) (f : FuncId) (fs cs : List AVal) (H : List (List AVal)) (id : Nat) (cap : Option Nat) (hid : H[id]? = some (rowC ceA l ++ rest))
    (hf : low H.length (.fn f fs cs) = true) (hH : LeBoxes H.length H H)
    (hp : ∀ x ∈ l, CFun Try.prog f (fs ++ [.agg (ceA x)] ++ cs) H (.bool (p x)) H) : CFun Try.prog 97 [.osl id 0 n cap 15, .fn f fs cs] H (.int .i64 (idxL p l 0)) H := by
  have hidl : id < H.length := (List.getElem?_eq_some_iff.1 hid).1
  refine CFun.intro (tr := []) (fz := []) (n := 19) (rs := [.tmp 4]) Try.func97 rfl (by kernel_rfl) rfl rfl mixed (by kernel_rfl) (by simp) (by simp) ?_
  simp
  refine LoopK.intro (tr := []) mixed (by kernel_rfl) (fun i : Nat => [(0, .osl id 0 n cap 15), (1, .fn f fs cs), (7, .int .i64 n), (8, .int .i64 i)]) (fun _ => H) (fun i => i ≤ n ∧ idxL p l 0 = idxL p (l.drop i) i) (fun i => n - i) 0 ?_ ?_ ?_
  · simp
  · simp [hH, hidl]
    simpa [low] using hf
  · rintro i ⟨h1, h2⟩
    by_cases hi : i < n
    · obtain ⟨x, hx, hd⟩ := get_drop (l := l) (i := i) (by omega)
      have hpx := hp x (List.mem_of_getElem? hx)
      have hload := (eA').load hx rest
      rw [hd] at h2
      clear hd hn
      have w1 : IntKind.i64.wrap ((i : Int) + 1) = i + 1 := wrap_in (by omega)
      simp [hi, hid, hload, -aload]
      refine ⟨_, _, .inl (by simpa [cargs] using hpx), by simp, ?_⟩
      simp only [idxL] at h2
      by_cases hpb : p x = true
      · simp [hpb, hH, h2]
      · rw [if_neg hpb] at h2
        simp [hpb, w1, hH]
        refine ⟨i + 1, ⟨by omega, h2⟩, by omega, ?_⟩
        simp [hidl]
        simpa [low] using hf
    · have : i = n := by omega
      subst this
      rw [List.drop_eq_nil_of_le (by omega)] at h2
      simp [h2, idxL, hH]


end Go.Proofs.Ytmgkemffbmfmpaa

namespace Go.Proofs.Ytmgkemffbmfmpaa
open Go Go.Am

set_option maxHeartbeats 4000000 in
set_option maxRecDepth 10000 in
theorem f100_del (l : List Lsa) (n c : Nat) (hn : l.length = n) (hc : n ≤ c) (hlen : n < 1099511627776) (p : Lsa → Bool) (f : FuncId) (fs cs : List AVal) (hfs : fs.all noid0 = true) (hcs : cs.all noid0 = true)
    (hp : ∀ x, CFun Try.prog f (fs ++ [.agg (ceA x)] ++ cs) [] (.bool (p x)) []) : CFun Try.prog 100 [.osl 0 0 n (some c) 15, .fn f fs cs] [rowC ceA l] (.osl 0 0 (l.filter fun x => !p x).length (some c) 15) [delRow ceA 15 p l] := by
  have n01 : ∀ y : AVal, noid0 y = true → noid y = true := by
    intro y hy
    cases y <;> first | rfl | (simp [noid0] at hy)
  have hno : ∀ x : Lsa, (fs ++ [AVal.agg (ceA x)] ++ cs).all noid = true := by
    intro x
    simp only [List.all_append, Bool.and_eq_true]
    exact ⟨⟨List.all_eq_true.2 fun y hy => n01 y (List.all_eq_true.1 hfs y hy), rfl⟩, List.all_eq_true.2 fun y hy => n01 y (List.all_eq_true.1 hcs y hy)⟩
  have hlow : ∀ k, low k (.fn f fs cs) = true := fun k => noid_low (by simp [noid, hfs, hcs])
  have flatB_le := (eA').rowLe
  refine CFun.intro (tr := []) (fz := []) (n := 42) (rs := [.tmp 4]) Try.func100 rfl (by kernel_rfl) rfl rfl mixed (by kernel_rfl) (by simp) (by simp) ?_
  simp
  have hidx := f97_ixr l [] n hn hlen p f fs cs [rowC ceA l] 0 (some c) (by simp) (hlow _) (by simp [flatB_le]) (fun x _ => (hp x).up' _ (hno x) rfl)
  refine ⟨_, _, .inl hidx, trivial, ?_⟩
  rcases idxL_spec p l 0 with ⟨e1, e2⟩ | ⟨i, e1, e2, e3⟩
  · simp [e1, delRow, e2, hn, flatB_le]
  · have w0 : IntKind.i64.wrap ((i : Int) + 1) = i + 1 := wrap_in (by omega)
    have hne : ¬ ((i : Int) = -1) := by omega
    simp [e1, w0, hne]
    refine LoopK.intro (tr := []) mixed (by kernel_rfl) (fun q : Nat × Nat × List Lsa => [(0, .osl 0 0 n (some c) 15), (1, .fn f fs cs), (5, .int .i64 q.1), (6, .int .i64 q.2.1)]) (fun q => [rowC ceA q.2.2])
      (fun q => q.1 < q.2.1 ∧ q.2.1 ≤ n ∧ q.2.2.length = n ∧ q.2.2.take q.1 = (l.take q.2.1).filter (fun x => !p x) ∧ q.2.2.drop q.2.1 = l.drop q.2.1) (fun q => n - q.2.1) (i, i + 1, l) ?_ ?_ ?_
    · exact ⟨by simp, by simp; omega, hn, e3.symm, rfl⟩
    · simp [flatB_le]
      simpa [low] using hlow 1
    · rintro ⟨a, b, cur⟩ ⟨h1, h2, h3, h4, h5⟩
      simp only at h1 h2 h3 h4 h5
      have hal : a < cur.length := by omega
      by_cases hb : b < n
      · obtain ⟨x, hx, hd⟩ := get_drop (l := l) (i := b) (by omega)
        obtain ⟨y, hy, he⟩ := get_drop (l := cur) (i := b) (by omega)
        rw [hd, he, List.cons.injEq] at h5
        obtain ⟨rfl, h5⟩ := h5
        have hload := (eA').load0 hy
        have hcall := (hp y).up' [rowC ceA cur, ceA y] (hno y) rfl
        have hset := (eA').setOne0 cur a y hal
        have w1 : IntKind.i64.wrap ((b : Int) + 1) = b + 1 := wrap_in (by omega)
        have w2 : IntKind.i64.wrap ((a : Int) + 1) = a + 1 := wrap_in (by omega)
        have htk : (l.take (b + 1)).filter (fun x => !p x) = (l.take b).filter (fun x => !p x) ++ [y].filter (fun x => !p x) := by
          rw [List.take_add_one, hx]; simp
        have hlen2 := (eA').rowLen cur
        have hl := (eA').len y
        have ht := List.all_eq_true.1 ((eA').tree y)
        have hdis := (eA').dis y
        have hyk : (List.take 15 (ceA y)) = ceA y := List.take_of_length_le (by omega)
        have hle := treeCells_le 1 ((eA').tree y)
        have hs0 : setR zA 0 (ceA y) = ceA y := rfl
        simp only [zA] at hs0
        have hl1 := (eA').load0 (l := [y]) (i := 0) rfl
        rw [rowC_one, Nat.zero_mul] at hl1
        clear hn hd he
        by_cases hpx : p y = true
        · simp [hb, hload, hl, ht, hdis, hyk, hs0, hl1, -aload, -setR]
          refine ⟨_, _, .inl (by simpa [cargs, hdis, hyk] using hcall), by simp, ?_⟩
          simp [hpx, w1]
          refine ⟨a, b + 1, cur, ⟨by omega, by omega, h3, by rw [htk]; simp [hpx, h4], h5⟩, by omega, ?_⟩
          simp [flatB_le]
          simpa [low] using hlow 1
        · have hfit : a * 15 + 15 ≤ (rowC ceA cur).length := by omega
          simp [hb, hload, hl, ht, hdis, hyk, hs0, hl1, -aload, -setR]
          refine ⟨_, _, .inl (by simpa [cargs, hdis, hyk] using hcall), by simp, ?_⟩
          have han : a < n := by omega
          have hset' : (cur.set a y).take (a + 1) = (l.take (b + 1)).filter (fun x => !p x) := by
            rw [htk, ← h4, List.take_add_one, List.take_set_of_le (by omega)]
            simp [hal, hpx]
          simp [hpx, han, hfit, hset, hl, hl1, hdis, hyk, w1, w2, -setR, -aload]
          refine ⟨a + 1, b + 1, cur.set a y, ⟨by omega, by omega, by simpa using h3, hset', ?_⟩, by omega, ?_⟩
          · rw [List.drop_set_of_lt (by omega)]; exact h5
          · simp [flatB_le]
            simpa [low] using hlow 1
      · have hbn : b = n := by omega
        subst hbn
        have hlb : l.take b = l := List.take_of_length_le (by omega)
        rw [hlb] at h4
        have hl : (l.filter fun x => !p x).length = a := by
          rw [← h4]; simp; omega
        have hrow := (eA').strike cur a (by omega) ((b - a) * 15) (by rw [h3]) (List.replicate ((b - a) * 15) .undef) (by simp)
        have hfl := (eA').rowLen cur
        have hab : ¬ b - a = 0 := by omega
        have hfit : a * 15 + (b - a) * 15 ≤ (rowC ceA cur).length := by omega
        have z1 : a ≤ b := by omega
        have z2 : a ≤ c := by omega
        simp [z1, z2, hab, hfit, hrow, -setR]
        exact ⟨hl.symm, by rw [delRow, hl, hn, h4]; exact (eA').roomLe _ _ _⟩
set_option maxHeartbeats 4000000 in
set_option maxRecDepth 10000 in
theorem f100_del0 (f : FuncId) (fs cs : List AVal) (hfs : fs.all noid0 = true) (hcs : cs.all noid0 = true)
    (p : Lsa → Bool) (hp : ∀ x, CFun Try.prog f (fs ++ [.agg (ceA x)] ++ cs) [] (.bool (p x)) []) : CFun Try.prog 100 [.sl 15 [] .full, .fn f fs cs] [] (.sl 15 [] .full) [] := by
  refine CFun.intro (tr := []) (fz := []) (n := 42) (rs := [.tmp 4]) Try.func100 rfl (by kernel_rfl) rfl rfl mixed (by kernel_rfl) (by simp) (by simp) ?_
  have hlow : low 0 (.fn f fs cs) = true := noid_low (by simp [noid, hfs, hcs])
  have h := f97_ix [] 0 rfl (by omega) p f fs cs [] hlow (by simp) (fun x hx => by cases hx)
  simp
  refine ⟨_, _, .inl (h.wk [.sl 15 [] .full, .fn f fs cs] (by simp) (by simp)), trivial, ?_⟩
  simp [idxL]

end Go.Proofs.Ytmgkemffbmfmpaa

namespace Go.Proofs.Ytmgkemffbmfmpaa
open Go Go.Am

theorem gE {α : Type} {l : List α} {i : Nat} {x : α} (hx : l[i]? = some x) (h : i < l.length) : l[i]'h = x := by
  rw [List.getElem?_eq_getElem h] at hx
  injection hx
/-- Pairs, one by one. -/
def eqW {α : Type} (r : α → α → Bool) : List α → List α → Bool
  | [], [] => true
  | x :: xs, y :: ys => r x y && eqW r xs ys
  | _, _ => false
theorem eqW_len {α : Type} {r : α → α → Bool} : ∀ {a b : List α}, a.length ≠ b.length → eqW r a b = false
  | [], [], h => (h rfl).elim
  | [], _ :: _, _ => rfl
  | _ :: _, [], _ => rfl
  | x :: xs, y :: ys, h => by
    simp only [eqW]
    rw [eqW_len (by simpa using h), Bool.and_false]
theorem eqW_refl {α : Type} {r : α → α → Bool} (h : ∀ x, r x x = true) : ∀ a : List α, eqW r a a = true
  | [] => rfl
  | x :: xs => by simp [eqW, h x, eqW_refl h xs]
theorem eqW_dec {α : Type} [DecidableEq α] : ∀ a b : List α, eqW (fun x y => decide (x = y)) a b = decide (a = b)
  | [], [] => rfl
  | [], _ :: _ => rfl
  | _ :: _, [] => rfl
  | x :: xs, y :: ys => by
    simp only [eqW]
    rw [eqW_dec xs ys, Bool.eq_iff_iff]
    simp
-- slices.EqualFunc of advertisements
set_option maxHeartbeats 4000000 in
set_option maxRecDepth 10000 in
theorem f77 (a b : List Lsa) (n m : Nat) (hn : a.length = n) (hm : b.length = m) (hlen : n < 1099511627776) (f : FuncId) (r : Lsa → Lsa → Bool)
    (hp : ∀ x ∈ a, ∀ y ∈ b, CFun Try.prog f [encA x, encA y] [] (.bool (r x y)) []) : CFun Try.prog 77 [.sl 15 (a.map encA) .sh, .sl 15 (b.map encA) .sh, .fn f [] []] [] (.bool (eqW r a b)) [] := by
  refine CFun.intro (tr := []) (fz := []) (n := 32) (rs := [.tmp 6]) Try.func77 rfl (by kernel_rfl) rfl rfl mixed (by kernel_rfl) (by simp) (by simp) ?_
  by_cases hnm : n = m
  case neg =>
    have hnm' : ¬ (n : Int) = m := by omega
    simp [hn, hm, hnm', eqW_len (show a.length ≠ b.length by omega)]
  subst hnm
  simp [hn, hm]
  refine LoopK.intro (tr := []) mixed (by kernel_rfl) (fun i : Nat => [(1, .sl 15 (b.map encA) .sh), (2, .fn f [] []), (15, .sl 15 (a.map encA) .sh), (16, .int .i64 n), (17, .int .i64 i)]) (fun _ => []) (fun i => i ≤ n ∧ eqW r a b = eqW r (a.drop i) (b.drop i)) (fun i => n - i) 0 ?_ ?_ ?_
  · simp
  · simp
  · rintro i ⟨h1, h2⟩
    by_cases hi : i < n
    · obtain ⟨x, hx, hd⟩ := get_drop (l := a) (i := i) (by omega)
      obtain ⟨y, hy, he⟩ := get_drop (l := b) (i := i) (by omega)
      rw [hd, he] at h2
      simp only [eqW] at h2
      have w1 : IntKind.i64.wrap ((i : Int) + 1) = i + 1 := wrap_in (by omega)
      have h := fun H => (hp x (List.mem_of_getElem? hx) y (List.mem_of_getElem? hy)).up' H rfl rfl
      clear hn hm hd he
      simp [hi, hx, hy]
      refine ⟨_, _, .inl (by simpa using h _), by simp, ?_⟩
      by_cases hb : r x y = true
      · rw [hb, Bool.true_and] at h2
        simp [hb, w1]
        exact ⟨i + 1, ⟨by omega, h2⟩, by omega, by simp⟩
      · simp [hb] at h2
        simp [hb, h2]
    · have e : a.drop i = [] := List.drop_of_length_le (by omega)
      have e' : b.drop i = [] := List.drop_of_length_le (by omega)
      rw [e, e'] at h2
      simp [hi, h2, eqW]
def sameX (x y : Lsa) : Bool := decide (x.H.Seq = y.H.Seq) && (decide (x.H.Sum = y.H.Sum) && sameB x y)
def okP (l : Lsa) : Prop := l.Links.length < 8796093022208 ∧ l.Att.length < 140737488355328
-- lsdb.Same$1
set_option maxHeartbeats 4000000 in
set_option maxRecDepth 10000 in
theorem f102 (x y : Lsa) (ok : okP x) : CFun Try.prog 102 [encA x, encA y] [] (.bool (sameX x y)) [] := by
  refine CFun.intro (tr := []) (fz := []) (n := 26) (rs := [.tmp 4]) Try.func102 rfl (by kernel_rfl) rfl rfl mixed (by kernel_rfl) (by simp) (by simp) ?_
  have h := fun H => (c29 x y ok.1 ok.2).up' H rfl rfl
  unfold sameX
  by_cases e1 : x.H.Seq = y.H.Seq
  · by_cases e2 : x.H.Sum = y.H.Sum
    · simp [e1, e2]
      refine ⟨_, _, .inl (by simpa [e1, e2] using h _), by simp, ?_⟩
      simp
    · simp [e1, e2]
  · simp [e1]
-- lsdb.Same
set_option maxHeartbeats 4000000 in
set_option maxRecDepth 10000 in
theorem f47 (a b : List Lsa) (hlen : a.length < 1099511627776) (ok : ∀ x ∈ a, okP x) : CFun Try.prog 47 [.sl 15 (a.map encA) .sh, .sl 15 (b.map encA) .sh] [] (.bool (eqW sameX a b)) [] := by
  refine CFun.intro (tr := []) (fz := []) (n := 8) (rs := [.tmp 4]) Try.func47 rfl (by kernel_rfl) rfl rfl mixed (by kernel_rfl) (by simp) (by simp) ?_
  have h := f77 a b _ _ rfl rfl hlen 102 sameX (fun x hx y _ => f102 x y (ok x hx))
  simp
  refine ⟨_, _, .inl h, by simp, ?_⟩
  simp
-- routingref25.Same
set_option maxHeartbeats 4000000 in
set_option maxRecDepth 10000 in
theorem f48 (a b : List Lsa) (n m : Nat) (hn : a.length = n) (hm : b.length = m) (hlen : n < 1099511627776) (ok : ∀ x ∈ a, okP x) : CFun Try.prog 48 [.sl 15 (a.map encA) .sh, .sl 15 (b.map encA) .sh] [] (.bool (eqW sameX a b)) [] := by
  refine CFun.intro (tr := []) (fz := []) (n := 57) (rs := [.tmp 4]) Try.func48 rfl (by kernel_rfl) rfl rfl mixed (by kernel_rfl) (by simp) (by simp) ?_
  by_cases hnm : n = m
  case neg =>
    have hnm' : ¬ (n : Int) = m := by omega
    simp [hn, hm, hnm', eqW_len (show a.length ≠ b.length by omega)]
  subst hnm
  simp [hn, hm]
  refine LoopK.intro (tr := []) mixed (by kernel_rfl) (fun i : Nat => [(0, .sl 15 (a.map encA) .sh), (1, .sl 15 (b.map encA) .sh), (5, .int .i64 i)]) (fun _ => []) (fun i => i ≤ n ∧ eqW sameX a b = eqW sameX (a.drop i) (b.drop i)) (fun i => n - i) 0 ?_ ?_ ?_
  · simp
  · simp
  · rintro i ⟨h1, h2⟩
    by_cases hi : i < n
    · obtain ⟨x, hx, hd⟩ := get_drop (l := a) (i := i) (by omega)
      obtain ⟨y, hy, he⟩ := get_drop (l := b) (i := i) (by omega)
      rw [hd, he] at h2
      simp only [eqW] at h2
      have w1 : IntKind.i64.wrap ((i : Int) + 1) = i + 1 := wrap_in (by omega)
      have okx := ok x (List.mem_of_getElem? hx)
      have h := fun H => (c30 x y okx.1 okx.2).up' H rfl rfl
      clear hd he
      by_cases e1 : x.H.Seq = y.H.Seq
      · by_cases e2 : x.H.Sum = y.H.Sum
        · have hs : sameX x y = sameB x y := by simp [sameX, e1, e2]
          rw [hs] at h2
          simp [hn, hm, hi, hx, hy, gE hx, gE hy, e1, e2]
          refine ⟨_, _, .inl (by simpa [e1, e2] using h _), by simp, ?_⟩
          by_cases hb : sameB x y = true
          · rw [hb, Bool.true_and] at h2
            simp [hb, w1]
            exact ⟨i + 1, ⟨by omega, h2⟩, by omega, by simp⟩
          · simp [hb] at h2
            simp [hb, h2]
        · have hs : sameX x y = false := by simp [sameX, e2]
          rw [hs] at h2
          simp at h2
          simp [hn, hm, hi, hx, hy, gE hx, gE hy, e1, e2, h2]
      · have hs : sameX x y = false := by simp [sameX, e1]
        rw [hs] at h2
        simp at h2
        simp [hn, hm, hi, hx, hy, gE hx, gE hy, e1, h2]
    · have e : a.drop i = [] := List.drop_of_length_le (by omega)
      have e' : b.drop i = [] := List.drop_of_length_le (by omega)
      rw [e, e'] at h2
      have : i = n := by omega
      subst this
      simp [hn, h2, eqW]
/-- routingref25.Equal -/
def sameZ (x y : Lsa) : Bool := decide (x.H = y.H) && sameB x y
theorem sameZ_iff (x y : Lsa) : sameZ x y = true ↔ x = y := by
  simp only [sameZ, sameB, Bool.and_eq_true, decide_eq_true_eq]
  constructor
  · rintro ⟨h, _, h1, h2, h3, h4, h5, h6, h7, h8⟩
    cases x; cases y; simp_all
  · rintro rfl
    simp
theorem eqZ (a b : List Lsa) : eqW sameZ a b = decide (a = b) := by
  rw [← eqW_dec]
  congr 1
  funext x y
  rw [Bool.eq_iff_iff, sameZ_iff]
  simp
set_option maxHeartbeats 4000000 in
set_option maxRecDepth 10000 in
theorem f28 (a b : List Lsa) (n m : Nat) (hn : a.length = n) (hm : b.length = m) (hlen : n < 1099511627776) (ok : ∀ x ∈ a, okP x) : CFun Try.prog 28 [.sl 15 (a.map encA) .sh, .sl 15 (b.map encA) .sh] [] (.bool (decide (a = b))) [] := by
  refine CFun.intro (tr := []) (fz := []) (n := 27) (rs := [.tmp 4]) Try.func28 rfl (by kernel_rfl) rfl rfl mixed (by kernel_rfl) (by simp) (by simp) ?_
  rw [← eqZ]
  by_cases hnm : n = m
  case neg =>
    have hnm' : ¬ (n : Int) = m := by omega
    simp [hn, hm, hnm', eqW_len (show a.length ≠ b.length by omega)]
  subst hnm
  simp [hn, hm]
  refine LoopK.intro (tr := []) mixed (by kernel_rfl) (fun i : Nat => [(0, .sl 15 (a.map encA) .sh), (1, .sl 15 (b.map encA) .sh), (5, .int .i64 i)]) (fun _ => []) (fun i => i ≤ n ∧ eqW sameZ a b = eqW sameZ (a.drop i) (b.drop i)) (fun i => n - i) 0 ?_ ?_ ?_
  · simp
  · simp
  · rintro i ⟨h1, h2⟩
    by_cases hi : i < n
    · obtain ⟨x, hx, hd⟩ := get_drop (l := a) (i := i) (by omega)
      obtain ⟨y, hy, he⟩ := get_drop (l := b) (i := i) (by omega)
      rw [hd, he] at h2
      simp only [eqW] at h2
      have w1 : IntKind.i64.wrap ((i : Int) + 1) = i + 1 := wrap_in (by omega)
      have okx := ok x (List.mem_of_getElem? hx)
      have h := fun H => (c20 x y okx.1 okx.2).up' H rfl rfl
      clear hd he
      have hs : (decide (x.H = y.H) && sameB x y) = sameZ x y := rfl
      rw [hs] at h
      simp [hn, hm, hi, hx, hy, gE hx, gE hy]
      refine ⟨_, _, .inl (by simpa using h _), by simp, ?_⟩
      by_cases hb : sameZ x y = true
      · rw [hb, Bool.true_and] at h2
        simp [hb, w1]
        exact ⟨i + 1, ⟨by omega, h2⟩, by omega, by simp⟩
      · simp [hb] at h2
        simp [hb, h2]
    · have e : a.drop i = [] := List.drop_of_length_le (by omega)
      have e' : b.drop i = [] := List.drop_of_length_le (by omega)
      rw [e, e'] at h2
      have : i = n := by omega
      subst this
      simp [hn, h2, eqW]
end Go.Proofs.Ytmgkemffbmfmpaa

namespace Go.Proofs.Ytmgkemffbmfmpaa
open Go Go.Am

-- routingref25.Find
set_option maxHeartbeats 4000000 in
set_option maxRecDepth 10000 in
theorem f87 (l : List Lsa) (n : Nat) (hn : l.length = n) (hlen : n < 1099511627776) (k : LKey) : CFun Try.prog 87 [.sl 15 (l.map encA) .sh, encY k] [] (.int .i64 (idxL (hasK k) l 0)) [] := by
  refine CFun.intro (tr := []) (fz := []) (n := 21) (rs := [.tmp 4]) Try.func87 rfl (by kernel_rfl) rfl rfl mixed (by kernel_rfl) (by simp) (by simp) ?_
  simp
  refine LoopK.intro (tr := []) mixed (by kernel_rfl) (fun i : Nat => [(0, .sl 15 (l.map encA) .sh), (3, .ptr 0 0), (5, .int .i64 i)]) (fun _ => [cellsY k]) (fun i => i ≤ n ∧ idxL (hasK k) l 0 = idxL (hasK k) (l.drop i) i) (fun i => n - i) 0 ?_ ?_ ?_
  · simp
  · simp
  · rintro i ⟨h1, h2⟩
    by_cases hi : i < n
    · obtain ⟨x, hx, hd⟩ := get_drop (l := l) (i := i) (by omega)
      rw [hd] at h2
      simp only [idxL] at h2
      have w1 : IntKind.i64.wrap ((i : Int) + 1) = i + 1 := wrap_in (by omega)
      have h := fun H => (c26 x.H).up' H rfl rfl
      have hk := keyY_iff (keyH x.H) k
      have hh : hasK k x = decide (keyH x.H = k) := rfl
      rw [hh] at h2
      generalize keyH x.H = q at h hk h2
      clear hd hh
      simp [hi, hn, hx, gE hx]
      refine ⟨_, _, .inl (by simpa using h _), by simp, ?_⟩
      by_cases hb : q = k
      · subst hb
        simp at h2
        simp [h2]
      · rw [if_neg (by simpa using hb)] at h2
        rw [decide_eq_false hb] at hk
        simp only [Bool.and_eq_false_iff, beq_eq_false_iff_ne] at hk
        have hk2 : ¬ (q.Ty = k.Ty ∧ q.ID = k.ID ∧ q.Len = k.Len ∧ q.Router = k.Router) := by
          rintro ⟨r1, r2, r3, r4⟩
          cases q; cases k; simp_all
        simp [hk2, w1]
        exact ⟨i + 1, ⟨by omega, h2⟩, by omega, by simp⟩
    · have : i = n := by omega
      subst this
      rw [List.drop_eq_nil_of_le (by omega)] at h2
      simp [hn, h2, idxL]
/-- What a search finds. -/
theorem idx_get (l : List Lsa) (k : LKey) : (idxL (hasK k) l 0 = -1 ∧ getD_ l k = (lsa0, false)) ∨ ∃ i x, idxL (hasK k) l 0 = ((i : Nat) : Int) ∧ l[i]? = some x ∧ i < l.length ∧ getD_ l k = (x, true) := by
  rcases idxL_find (hasK k) l 0 with ⟨h1, h2, _⟩ | ⟨i, x, h1, h2, h3⟩
  · exact .inl ⟨h1, by simp [getD_, h2]⟩
  · refine .inr ⟨i, x, by simpa using h1, h2, (List.getElem?_eq_some_iff.1 h2).1, ?_⟩
    have : l.find? (hasK k) = some x := by
      first | exact h3 | exact h3.1
    simp [getD_, this]
-- routingref25.Get
set_option maxHeartbeats 4000000 in
set_option maxRecDepth 10000 in
theorem f39 (l : List Lsa) (n : Nat) (hn : l.length = n) (hlen : n < 1099511627776) (k : LKey) : CFun Try.prog 39 [.sl 15 (l.map encA) .sh, encY k] [] (.tup [encA (getD_ l k).1, .bool (getD_ l k).2]) [] := by
  refine CFun.intro (tr := []) (fz := []) (n := 17) (rs := [.cell 4 46, .tmp 5]) Try.func39 rfl (by kernel_rfl) rfl rfl mixed (by kernel_rfl) (by simp) (by simp) ?_
  have h := fun H => (f87 l n hn hlen k).up' H rfl rfl
  simp
  refine ⟨_, _, .inl (by simpa using h _), by simp, ?_⟩
  rcases idx_get l k with ⟨h1, h2⟩ | ⟨i, x, h1, h2, h3, h4⟩
  · simp [h1, h2, lsa0]
  · rw [h1, h4]
    have h5 : ¬ ((i : Int) < 0) := by omega
    have h6 : i < n := by omega
    simp [h5, h2, gE h2, hn, h6]
-- lsdb.Get
set_option maxHeartbeats 4000000 in
set_option maxRecDepth 10000 in
theorem f37 (l : List Lsa) (n : Nat) (hn : l.length = n) (hlen : n < 1099511627776) (ok : ∀ x ∈ l, okL x) (k : LKey) : CFun Try.prog 37 [.sl 15 (l.map encA) .sh, encY k] [] (.tup [encA (getD_ l k).1, .bool (getD_ l k).2]) [] := by
  refine CFun.intro (tr := []) (fz := []) (n := 20) (rs := [.cell 4 46, .tmp 5]) Try.func37 rfl (by kernel_rfl) rfl rfl mixed (by kernel_rfl) (by simp) (by simp) ?_
  have h : ∀ (H : List (List AVal)), LeBoxes H.length H H → CFun Try.prog 97 [.sl 15 (l.map encA) .sh, .fn 98 [.agg (cellsY k)] []] H (.int .i64 (idxL (hasK k) l 0)) H := fun H hH => f97_ix l n hn hlen (hasK k) 98 [.agg (cellsY k)] [] H (by simp [low, low0]) hH (fun x _ => (f98 k x).up' H rfl rfl)
  simp
  refine ⟨_, _, .inl (by simpa using h [cellsY k, [.int .i64 0, .int .u32 0, .int .i64 0, .int .u32 0, .int .i64 0, .int .i64 0, .int .i64 0, .bool false, .bool false, .sl 0 [] .full, .sl 0 [] .full, .int .i64 0, .bool false, .int .u32 0, .int .i64 0]] (by simp)), by simp, ?_⟩
  rcases idx_get l k with ⟨h1, h2⟩ | ⟨i, x, h1, h2, h3, h4⟩
  · simp [h1, h2, lsa0]
  · rw [h1, h4]
    have h5 : ¬ ((i : Int) < 0) := by omega
    have h6 : i < n := by omega
    have h86 := fun H => (f86 x (ok x (List.mem_of_getElem? h2))).up' H rfl rfl
    simp [h5, h2, gE h2, hn, h6]
    refine ⟨_, _, .inl (by simpa using h86 _), by simp, ?_⟩
    simp
/-- lsdb.Compare -/
def cmpG (l : List Lsa) (h : Hdr) : Int := if (getD_ l (keyH h)).2 = true then cmpH h (getD_ l (keyH h)).1.H else 1
theorem cmpG_D (l : List Lsa) (h : Hdr) : cmpG l h = cmpD l h := by
  unfold cmpG cmpD getD_
  cases l.find? (hasK (keyH h)) <;> rfl
set_option maxHeartbeats 4000000 in
set_option maxRecDepth 10000 in
theorem f36 (l : List Lsa) (n : Nat) (hn : l.length = n) (hlen : n < 1099511627776) (ok : ∀ x ∈ l, okL x) (h : Hdr) : CFun Try.prog 36 [.sl 15 (l.map encA) .sh, encH h] [] (.int .i64 (cmpD l h)) [] := by
  refine CFun.intro (tr := []) (fz := []) (n := 20) (rs := [.tmp 4]) Try.func36 rfl (by kernel_rfl) rfl rfl mixed (by kernel_rfl) (by simp) (by simp) ?_
  have hk := fun H => (c25 h).up' H rfl rfl
  have hg := fun H => (f37 l n hn hlen ok (keyH h)).up' H rfl rfl
  have hc := fun H => (c16 h (getD_ l (keyH h)).1.H).up' H rfl rfl
  rw [← cmpG_D, cmpG]
  generalize getD_ l (keyH h) = g at hg hc ⊢
  generalize keyH h = q at hk hg
  simp
  refine ⟨_, _, .inl (by simpa using hk _), by simp, ?_⟩
  simp
  refine ⟨_, _, .inl (by simpa using hg _), by simp, ?_⟩
  cases hb : g.2
  · simp
  · simp
    refine ⟨_, _, .inl (by simpa using hc _), by simp, ?_⟩
    simp
-- routingref25.Compare
set_option maxHeartbeats 4000000 in
set_option maxRecDepth 10000 in
theorem f49 (l : List Lsa) (n : Nat) (hn : l.length = n) (hlen : n < 1099511627776) (h : Hdr) (ha : inI h.Age) (hl : ∀ x ∈ l, inI x.H.Age) : CFun Try.prog 49 [.sl 15 (l.map encA) .sh, encH h] [] (.int .i64 (cmpD l h)) [] := by
  refine CFun.intro (tr := []) (fz := []) (n := 19) (rs := [.tmp 4]) Try.func49 rfl (by kernel_rfl) rfl rfl mixed (by kernel_rfl) (by simp) (by simp) ?_
  have hk := fun H => (c26 h).up' H rfl rfl
  have hg := fun H => (f87 l n hn hlen (keyH h)).up' H rfl rfl
  rw [← cmpG_D, cmpG]
  generalize keyH h = q at hk hg ⊢
  simp
  refine ⟨_, _, .inl (by simpa using hk _), by simp, ?_⟩
  simp
  refine ⟨_, _, .inl (by simpa using hg _), by simp, ?_⟩
  rcases idx_get l q with ⟨h1, h2⟩ | ⟨i, x, h1, h2, h3, h4⟩
  · simp [h1, h2]
  · rw [h1, h4]
    have h5 : ¬ ((i : Int) < 0) := by omega
    have h6 : i < n := by omega
    have hc := fun H => (c17 h x.H ha (hl x (List.mem_of_getElem? h2))).up' H rfl rfl
    simp [h5, h2, gE h2, hn, h6]
    refine ⟨_, _, .inl (by simpa using hc _), by simp, ?_⟩
    simp
-- routingref25.Headers, lsdb.Headers
set_option maxHeartbeats 4000000 in
set_option maxRecDepth 10000 in
theorem f44 (l : List Lsa) (n : Nat) (hn : l.length = n) (hlen : n < 1099511627776) : CFun Try.prog 44 [.sl 15 (l.map encA) .sh] [] (.sl 7 ((l.map Lsa.H).map encH) .sh) [] := by
  refine CFun.intro (tr := []) (fz := []) (n := 21) (rs := [.tmp 2]) Try.func44 rfl (by kernel_rfl) rfl rfl mixed (by kernel_rfl) (by simp) (by simp) ?_
  simp
  refine LoopK.intro (tr := [12]) mixed (by kernel_rfl) (fun i : Nat => [(0, .sl 15 (l.map encA) .sh), (3, .sl 7 (((l.take i).map Lsa.H).map encH) .own), (4, .int .i64 i)]) (fun _ => []) (fun i => i ≤ n) (fun i => n - i) 0 ?_ ?_ ?_
  · simp
  · simp
  · rintro i h1
    by_cases hi : i < n
    · obtain ⟨x, hx, hd⟩ := get_drop (l := l) (i := i) (by omega)
      have w1 : IntKind.i64.wrap ((i : Int) + 1) = i + 1 := wrap_in (by omega)
      have ht : l.take (i + 1) = l.take i ++ [x] := by rw [List.take_add_one, hx]; rfl
      have ht2 : List.take (i + 1) (List.map (encH ∘ Lsa.H) l) = List.take i (List.map (encH ∘ Lsa.H) l) ++ [encH x.H] := by rw [← List.map_take, ht]; simp
      have m1 : min i n = i := by omega
      have s1 : i + 1 ≤ 140737488355328 := by omega
      have s2 : (i + 1) * 56 ≤ 140737488355328 := by omega
      clear hd
      simp [hi, hn, hx, gE hx, w1, m1, s1, s2]
      exact ⟨i + 1, by omega, by omega, by simp [ht2]⟩
    · have : i = n := by omega
      subst this
      simp [hn, List.take_of_length_le (show l.length ≤ i by omega)]
end Go.Proofs.Ytmgkemffbmfmpaa

namespace Go.Proofs.Ytmgkemffbmfmpaa
open Go Go.Am

set_option maxHeartbeats 4000000 in
set_option maxRecDepth 10000 in
theorem f43 (l : List Lsa) (n : Nat) (hn : l.length = n) (hlen : n < 1099511627776) : CFun Try.prog 43 [.sl 15 (l.map encA) .sh] [] (.sl 7 ((l.map Lsa.H).map encH) .sh) [] := by
  refine CFun.intro (tr := []) (fz := []) (n := 19) (rs := [.tmp 2]) Try.func43 rfl (by kernel_rfl) rfl rfl mixed (by kernel_rfl) (by simp) (by simp) ?_
  simp [hn]
  refine LoopK.intro (tr := [12]) mixed (by kernel_rfl) (fun i : Nat => [(3, .sl 7 (((l.take i).map Lsa.H).map encH) .own), (6, .sl 15 (l.map encA) .sh), (7, .int .i64 n), (8, .int .i64 i)]) (fun _ => []) (fun i => i ≤ n) (fun i => n - i) 0 ?_ ?_ ?_
  · simp
  · simp
  · rintro i h1
    by_cases hi : i < n
    · obtain ⟨x, hx, hd⟩ := get_drop (l := l) (i := i) (by omega)
      have w1 : IntKind.i64.wrap ((i : Int) + 1) = i + 1 := wrap_in (by omega)
      have ht : l.take (i + 1) = l.take i ++ [x] := by rw [List.take_add_one, hx]; rfl
      have ht2 : List.take (i + 1) (List.map (encH ∘ Lsa.H) l) = List.take i (List.map (encH ∘ Lsa.H) l) ++ [encH x.H] := by rw [← List.map_take, ht]; simp
      have m1 : min i n = i := by omega
      have s1 : i + 1 ≤ 140737488355328 := by omega
      have s2 : (i + 1) * 56 ≤ 140737488355328 := by omega
      clear hd
      simp [hi, hn, hx, gE hx, w1, m1, s1, s2]
      exact ⟨i + 1, by omega, by omega, by simp [ht2]⟩
    · have : i = n := by omega
      subst this
      simp [hn, List.take_of_length_le (show l.length ≤ i by omega)]
-- routingref25.Drop
set_option maxHeartbeats 4000000 in
set_option maxRecDepth 10000 in
theorem f41 (l : List Lsa) (n : Nat) (hn : l.length = n) (hlen : n < 1034834473201) (k : LKey) : CFun Try.prog 41 [.sl 15 (l.map encA) .sh, encY k] [] (.sl 15 ((dropD l k).map encA) .sh) [] := by
  refine CFun.intro (tr := []) (fz := []) (n := 30) (rs := [.tmp 4]) Try.func41 rfl (by kernel_rfl) rfl rfl mixed (by kernel_rfl) (by simp) (by simp) ?_
  simp
  refine LoopK.intro (tr := [22]) mixed (by kernel_rfl) (fun i : Nat => [(0, .sl 15 (l.map encA) .sh), (3, .ptr 0 0), (5, .sl 15 ((dropD (l.take i) k).map encA) .own), (6, .int .i64 i)]) (fun _ => [cellsY k]) (fun i => i ≤ n) (fun i => n - i) 0 ?_ ?_ ?_
  · simp
  · simp [dropD]
  · rintro i h1
    by_cases hi : i < n
    · obtain ⟨x, hx, hd⟩ := get_drop (l := l) (i := i) (by omega)
      have w1 : IntKind.i64.wrap ((i : Int) + 1) = i + 1 := wrap_in (by omega)
      have ht : l.take (i + 1) = l.take i ++ [x] := by rw [List.take_add_one, hx]; rfl
      have hd1 : dropD (l.take (i + 1)) k = dropD (l.take i) k ++ (if hasK k x = true then [] else [x]) := by
        rw [ht, dropD, dropD, List.filter_append]
        cases h : hasK k x <;> simp [h]
      have hq : (dropD (l.take i) k).length ≤ i := by
        have := List.length_filter_le (fun l => !hasK k l) (l.take i)
        simp only [dropD]
        simp at this ⊢
        omega
      have h := fun H => (c26 x.H).up' H rfl rfl
      have hk := keyY_iff (keyH x.H) k
      have hh : hasK k x = decide (keyH x.H = k) := rfl
      rw [hh] at hd1
      generalize keyH x.H = q at h hk hd1
      have s1 : (dropD (l.take i) k).length + 1 ≤ 140737488355328 := by omega
      have s2 : ((dropD (l.take i) k).length + 1) * 136 ≤ 140737488355328 := by omega
      clear hd hh ht
      simp [hi, hn, hx, gE hx]
      refine ⟨_, _, .inl (by simpa using h _), by simp, ?_⟩
      by_cases hb : q = k
      · subst hb
        simp at hd1
        simp [w1]
        exact ⟨i + 1, by omega, by omega, by simp [hd1]⟩
      · rw [if_neg (by simpa using hb)] at hd1
        rw [decide_eq_false hb] at hk
        have hk2 : ¬ (q.Ty = k.Ty ∧ q.ID = k.ID ∧ q.Len = k.Len ∧ q.Router = k.Router) := by
          rintro ⟨r1, r2, r3, r4⟩
          cases q; cases k; simp_all
        have hk3 : ¬ q.Ty = k.Ty ∨ ¬ q.ID = k.ID ∨ ¬ q.Len = k.Len ∨ ¬ q.Router = k.Router := by
          by_cases r1 : q.Ty = k.Ty
          · by_cases r2 : q.ID = k.ID
            · by_cases r3 : q.Len = k.Len
              · exact .inr (.inr (.inr fun r4 => hk2 ⟨r1, r2, r3, r4⟩))
              · exact .inr (.inr (.inl r3))
            · exact .inr (.inl r2)
          · exact .inl r1
        simp [hk3, hi, hn, hx, gE hx, s1, s2, w1]
        exact ⟨i + 1, by omega, by omega, by simp [hd1]⟩
    · have : i = n := by omega
      subst this
      simp [hn, List.take_of_length_le (show l.length ≤ i by omega)]
/-! What is left of a row. -/
theorem dr_noid (p : Lsa → Bool) (l : List Lsa) : (delRow ceA 15 p l).all noid0 = true := eA'.roomNoid _ _
theorem dr_len (p : Lsa → Bool) (l : List Lsa) : (delRow ceA 15 p l).length = l.length * 15 := by
  have := List.length_filter_le (fun x => !p x) l
  simp only [delRow, List.length_append, eA'.rowLen, List.length_replicate]
  omega
theorem dr_take (p : Lsa → Bool) (l : List Lsa) : (delRow ceA 15 p l).take ((l.filter fun x => !p x).length * 15) = rowC ceA (l.filter fun x => !p x) := by
  rw [delRow, List.take_append_of_le_length (by rw [eA'.rowLen]; omega), List.take_of_length_le (by rw [eA'.rowLen]; omega)]
theorem ch_A (l : List Lsa) (n : Nat) (h : l.length = n) : chunk true (rowC ceA l) 0 15 n = l.map encA := eA'.chunk l n h
theorem cp_row (l : List Lsa) (hl : l.length < 1034834473201) (hne : l ≠ []) (ok : ∀ x ∈ l, okL x) : CFun Try.prog 84 [.sl 15 (l.map encA) .sh] [] (.osl 0 0 l.length (some l.length) 15) [rowC ceA l] := f84 l _ rfl (List.length_pos_iff.2 hne) hl ok
-- lsdb.Drop
set_option maxHeartbeats 4000000 in
set_option maxRecDepth 10000 in
theorem f40 (l : List Lsa) (n : Nat) (hn : l.length = n) (hlen : n < 1034834473201) (ok : ∀ x ∈ l, okL x) (k : LKey) : CFun Try.prog 40 [.sl 15 (l.map encA) .sh, encY k] [] (.sl 15 ((dropD l k).map encA) .sh) [] := by
  refine CFun.intro (tr := []) (fz := [(4, 1, true)]) (n := 11) (rs := [.tmp 4]) Try.func40 rfl (by kernel_rfl) rfl rfl mixed (by kernel_rfl) (by simp) (by simp) ?_
  by_cases h0 : l = []
  · subst h0
    have h84 := f84z.up' [cellsY k] rfl rfl
    have h100 := (f100_del0 98 [.agg (cellsY k)] [] rfl rfl (hasK k) (fun x => f98 k x)).up' [cellsY k] rfl rfl
    simp
    refine ⟨_, _, .inl (by simpa using h84), by simp, ?_⟩
    simp
    refine ⟨_, _, .inl (by simpa using h100), by simp, ?_⟩
    simp [dropD]
  · have h84 := (cp_row l (by omega) h0 ok).upNew [cellsY k] (eA'.rowNoid l) rfl rfl
    have h100 := (f100_del l n n hn (Nat.le_refl _) (by omega) (hasK k) 98 [.agg (cellsY k)] [] rfl rfl (fun x => f98 k x)).at (H := [cellsY k, rowC ceA l]) (id := 1) rfl (eA'.rowNoid l) (dr_noid _ _) (by simp [low, low0]) rfl
    have e100 : (l.filter fun x => !hasK k x) = dropD l k := rfl
    rw [e100] at h100
    have hpos : 0 < n := by
      have := List.length_pos_iff.2 h0
      omega
    have hln := dr_len (hasK k) l
    have htk := dr_take (hasK k) l
    rw [e100] at htk
    have hch := ch_A (dropD l k) _ rfl
    have htr := eA'.rowTree (dropD l k)
    have hL := eA'.rowLen (dropD l k)
    simp
    refine ⟨_, _, .inl (by simpa [cargs, hn] using h84), by simp, ?_⟩
    simp
    refine ⟨_, _, .inl (by simpa [ren, ren0, hn] using h100), by simp, ?_⟩
    simp [hln, htk, hpos, hch, htr, hL, hn, -List.all_eq_true, -encA]
-- lsdb.From$1
def isR (r : Int) (l : Lsa) : Bool := !decide (l.H.Router = r)
set_option maxHeartbeats 4000000 in
set_option maxRecDepth 10000 in
theorem f101 (r : Int) (l : Lsa) : CFun Try.prog 101 [encA l, .iptr [.int .u32 r] 0] [] (.bool (isR r l)) [] := by
  refine CFun.intro (tr := []) (fz := []) (n := 9) (rs := [.tmp 3]) Try.func101 rfl (by kernel_rfl) rfl rfl mixed (by kernel_rfl) (by simp) (by simp) ?_
  by_cases h : l.H.Router = r <;> simp [isR, h]
def fromD (l : List Lsa) (r : Int) : List Lsa := l.filter fun x => !isR r x
-- lsdb.From
set_option maxHeartbeats 4000000 in
set_option maxRecDepth 10000 in
theorem f45 (l : List Lsa) (n : Nat) (hn : l.length = n) (hlen : n < 1034834473201) (ok : ∀ x ∈ l, okL x) (r : Int) : CFun Try.prog 45 [.sl 15 (l.map encA) .sh, .int .u32 r] [] (.sl 15 ((fromD l r).map encA) .sh) [] := by
  refine CFun.intro (tr := [2000003000000]) (fz := [(4, 1, true)]) (n := 9) (rs := [.tmp 4]) Try.func45 rfl (by kernel_rfl) rfl rfl mixed (by kernel_rfl) (by simp) (by simp) ?_
  by_cases h0 : l = []
  · subst h0
    have h84 := f84z.up' [[]] rfl rfl
    have h100 := (f100_del0 101 [] [.iptr [.int .u32 r] 0] rfl rfl (isR r) (fun x => f101 r x)).up' [[]] rfl rfl
    simp
    refine ⟨_, _, .inl (by simpa using h84), by simp, ?_⟩
    simp
    refine ⟨_, _, .inl (by simpa using h100), by simp, ?_⟩
    simp [fromD]
  · have h84 := (cp_row l (by omega) h0 ok).upNew [[]] (eA'.rowNoid l) rfl rfl
    have h100 := (f100_del l n n hn (Nat.le_refl _) (by omega) (isR r) 101 [] [.iptr [.int .u32 r] 0] rfl rfl (fun x => f101 r x)).at (H := [[], rowC ceA l]) (id := 1) rfl (eA'.rowNoid l) (dr_noid _ _) (by simp [low, low0]) rfl
    have e100 : (l.filter fun x => !isR r x) = fromD l r := rfl
    rw [e100] at h100
    have hpos : 0 < n := by
      have := List.length_pos_iff.2 h0
      omega
    have hln := dr_len (isR r) l
    have htk := dr_take (isR r) l
    rw [e100] at htk
    have hch := ch_A (fromD l r) _ rfl
    have htr := eA'.rowTree (fromD l r)
    have hL := eA'.rowLen (fromD l r)
    simp
    refine ⟨_, _, .inl (by simpa [cargs, hn] using h84), by simp, ?_⟩
    simp
    refine ⟨_, _, .inl (by simpa [ren, ren0, hn] using h100), by simp, ?_⟩
    simp [hln, htk, hpos, hch, htr, hL, hn, -List.all_eq_true, -encA]
-- routingref25.From
set_option maxHeartbeats 4000000 in
set_option maxRecDepth 10000 in
theorem f46 (l : List Lsa) (n : Nat) (hn : l.length = n) (hlen : n < 1034834473201) (r : Int) : CFun Try.prog 46 [.sl 15 (l.map encA) .sh, .int .u32 r] [] (.sl 15 ((fromD l r).map encA) .sh) [] := by
  refine CFun.intro (tr := []) (fz := []) (n := 30) (rs := [.tmp 4]) Try.func46 rfl (by kernel_rfl) rfl rfl mixed (by kernel_rfl) (by simp) (by simp) ?_
  simp
  refine LoopK.intro (tr := [22]) mixed (by kernel_rfl) (fun i : Nat => [(0, .sl 15 (l.map encA) .sh), (1, .int .u32 r), (5, .sl 15 ((fromD (l.take i) r).map encA) .own), (6, .int .i64 i)]) (fun _ => []) (fun i => i ≤ n) (fun i => n - i) 0 ?_ ?_ ?_
  · simp
  · simp [fromD]
  · rintro i h1
    by_cases hi : i < n
    · obtain ⟨x, hx, hd⟩ := get_drop (l := l) (i := i) (by omega)
      have w1 : IntKind.i64.wrap ((i : Int) + 1) = i + 1 := wrap_in (by omega)
      have ht : l.take (i + 1) = l.take i ++ [x] := by rw [List.take_add_one, hx]; rfl
      have hd1 : fromD (l.take (i + 1)) r = fromD (l.take i) r ++ (if x.H.Router = r then [x] else []) := by
        rw [ht, fromD, fromD, List.filter_append]
        by_cases h : x.H.Router = r <;> simp [isR, h]
      have hq : (fromD (l.take i) r).length ≤ i := by
        have := List.length_filter_le (fun x => !isR r x) (l.take i)
        simp only [fromD]
        simp at this ⊢
        omega
      have s1 : (fromD (l.take i) r).length + 1 ≤ 140737488355328 := by omega
      have s2 : ((fromD (l.take i) r).length + 1) * 136 ≤ 140737488355328 := by omega
      clear hd ht
      by_cases hb : x.H.Router = r
      · rw [if_pos hb] at hd1
        simp [hi, hn, hx, gE hx, hb, s1, s2, w1]
        exact ⟨i + 1, by omega, by omega, by simp [hd1, hb]⟩
      · rw [if_neg hb, List.append_nil] at hd1
        simp [hi, hn, hx, gE hx, hb, w1]
        exact ⟨i + 1, by omega, by omega, by simp [hd1]⟩
    · have : i = n := by omega
      subst this
      simp [hn, List.take_of_length_le (show l.length ≤ i by omega)]
end Go.Proofs.Ytmgkemffbmfmpaa
