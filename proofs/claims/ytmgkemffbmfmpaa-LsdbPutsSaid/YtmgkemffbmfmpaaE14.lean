import Derived.Test.YtmgkemffbmfmpaaE10
set_option linter.unusedSimpArgs false
set_option linter.unusedVariables false
namespace Go.Proofs.Ytmgkemffbmfmpaa
open Go Go.Am

theorem idx_fnd {l : List Lsa} (h : asc l) (k : LKey) : (idxL (hasK k) l 0 < 0) ↔ fndD l k = false := by
  rw [find_fnd h]
  rcases idxL_find (hasK k) l 0 with ⟨h1, h2, _⟩ | ⟨i, x, h1, h2, h3⟩
  · simp [h1, h2]
  · have : l.find? (hasK k) = some x := by
      first | exact h3 | exact h3.1
    rw [h1, this]
    simp
-- routingref25.Put
set_option maxHeartbeats 8000000 in
set_option maxRecDepth 10000 in
theorem f27 (l : List Lsa) (n : Nat) (hn : l.length = n) (hlen : n < 100000000) (hs : asc l) (b : Lsa) (okb : okA b) : CFun Try.prog 27 [.sl 15 (l.map encA) .sh, encA b] [] (.tup [.sl 15 ((putD l b).1.map encA) .sh, .int .i64 (putD l b).2]) [] := by
  refine CFun.intro (tr := []) (fz := []) (n := 29) (rs := [.tmp 4, .tmp 5]) Try.func27 rfl (by kernel_rfl) rfl rfl mixed (by kernel_rfl) (by simp) (by simp) ?_
  have h33 := fun H => (c14 b okb).up' H rfl rfl
  have hK := fun H => (c26 b.H).up' H rfl rfl
  have h87 := fun H => (f87 l n hn (by omega) (keyA b)).up' H rfl rfl
  have h88 := fun H => (f88 l n hn hlen b).up' H rfl rfl
  rw [insW_put b hs, ← putW_R b hs] at h88
  have hke : encY (keyH b.H) = encY (keyA b) := rfl
  rw [hke] at hK
  have hse := encL_cases b
  simp
  refine ⟨_, _, .inl (by simpa using h33 _), by simp, ?_⟩
  by_cases e0 : chkA b = 0
  case neg =>
    rw [if_pos e0] at hse
    have hp : putD l b = ([], chkA b) := by simp [putD, hse, e0]
    simp [e0, hp]
  have hl := chkA_len e0
  have h34 := fun H => (c22 b hl.1 hl.2).up' H rfl rfl
  rw [if_neg (by simpa using e0)] at hse
  simp [e0]
  refine ⟨_, _, .inl (by simpa using h34 _), by simp, ?_⟩
  by_cases e1 : b.H.Sum = sumA b
  case neg =>
    rw [if_neg e1] at hse
    have hp : putD l b = ([], 13) := by simp [putD, hse]
    simp [e1, hp]
  rw [if_pos e1] at hse
  simp [e1]
  refine ⟨_, _, .inl (by simpa [e1] using hK _), by simp, ?_⟩
  simp
  refine ⟨_, _, .inl (by simpa using h87 _), by simp, ?_⟩
  have hif := idx_fnd hs (keyA b)
  have hp : putD l b = if fndD l (keyA b) = false ∧ 2000 ≤ n then ([], 8) else (putR l b, 0) := by simp [putD, hse, hn]
  rw [hp]
  by_cases e2 : idxL (hasK (keyA b)) l 0 < 0
  · by_cases e3 : 2000 ≤ n
    · have e3' : (2000 : Int) ≤ n := by omega
      rw [if_pos ⟨hif.1 e2, e3⟩]
      simp [e2, e3', hn]
    · have e3' : ¬ (2000 : Int) ≤ n := by omega
      rw [if_neg (by simp [e3])]
      simp [e2, e3', hn]
      refine ⟨_, _, .inl (by simpa [e1] using h88 _), by simp, ?_⟩
      simp
  · rw [if_neg (by rw [← hif]; simp [e2])]
    simp [e2]
    refine ⟨_, _, .inl (by simpa [e1] using h88 _), by simp, ?_⟩
    simp
end Go.Proofs.Ytmgkemffbmfmpaa

namespace Go.Proofs.Ytmgkemffbmfmpaa
open Go Go.Am

-- routingref25.Keys
set_option maxHeartbeats 4000000 in
set_option maxRecDepth 10000 in
theorem f31 (a b : List LKey) (n m : Nat) (hn : a.length = n) (hm : b.length = m) (hlen : n < 8796093022208) : CFun Try.prog 31 [.sl 4 (a.map encY) .sh, .sl 4 (b.map encY) .sh] [] (.bool (decide (a = b))) [] := by
  refine CFun.intro (tr := []) (fz := []) (n := 26) (rs := [.tmp 4]) Try.func31 rfl (by kernel_rfl) rfl rfl mixed (by kernel_rfl) (by simp) (by simp) ?_
  by_cases hnm : n = m
  case neg =>
    have : a ≠ b := by rintro rfl; exact hnm (hn.symm.trans hm)
    have hnm' : ¬ (n : Int) = m := by omega
    simp [hn, hm, hnm', this]
  subst hnm
  simp [hn, hm]
  refine LoopK.intro (tr := []) mixed (by kernel_rfl) (fun i : Nat => [(0, .sl 4 (a.map encY) .sh), (1, .sl 4 (b.map encY) .sh), (5, .int .i64 i)]) (fun _ => []) (fun i => i ≤ n ∧ (a = b ↔ a.drop i = b.drop i)) (fun i => n - i) 0 ?_ ?_ ?_
  · simp
  · simp
  · rintro i ⟨h1, h2⟩
    by_cases hi : i < n
    · obtain ⟨r, hx, hd⟩ := get_drop (l := a) (i := i) (by omega)
      obtain ⟨t, hy, he⟩ := get_drop (l := b) (i := i) (by omega)
      rw [hd, he, List.cons.injEq] at h2
      have w1 : IntKind.i64.wrap ((i : Int) + 1) = i + 1 := wrap_in (by omega)
      clear hd he
      by_cases hrt : r = t
      · subst hrt
        simp [hn, hm, hi, hx, hy, gE hx, gE hy, w1]
        exact ⟨i + 1, ⟨by omega, by simpa using h2⟩, by omega, by simp⟩
      · have hne : ¬ (a = b) := by rw [h2]; simp [hrt]
        have hor : ¬ r.Ty = t.Ty ∨ ¬ r.ID = t.ID ∨ ¬ r.Len = t.Len ∨ ¬ r.Router = t.Router := by
          refine Decidable.byContradiction fun q => hrt ?_
          simp only [not_or, Decidable.not_not] at q
          cases r; cases t; simp_all
        simp [hn, hm, hi, hx, hy, gE hx, gE hy, hor, hne]
    · have e : a.drop i = [] := List.drop_of_length_le (by omega)
      have e' : b.drop i = [] := List.drop_of_length_le (by omega)
      rw [e, e'] at h2
      have : i = n := by omega
      subst this
      simp [hn, h2]
-- routingref24.SameHeaders
set_option maxHeartbeats 4000000 in
set_option maxRecDepth 10000 in
theorem f42 (a b : List Hdr) (n m : Nat) (hn : a.length = n) (hm : b.length = m) (hlen : n < 8796093022208) : CFun Try.prog 42 [.sl 7 (a.map encH) .sh, .sl 7 (b.map encH) .sh] [] (.bool (decide (a = b))) [] := by
  refine CFun.intro (tr := []) (fz := []) (n := 26) (rs := [.tmp 4]) Try.func42 rfl (by kernel_rfl) rfl rfl mixed (by kernel_rfl) (by simp) (by simp) ?_
  by_cases hnm : n = m
  case neg =>
    have : a ≠ b := by rintro rfl; exact hnm (hn.symm.trans hm)
    have hnm' : ¬ (n : Int) = m := by omega
    simp [hn, hm, hnm', this]
  subst hnm
  simp [hn, hm]
  refine LoopK.intro (tr := []) mixed (by kernel_rfl) (fun i : Nat => [(0, .sl 7 (a.map encH) .sh), (1, .sl 7 (b.map encH) .sh), (5, .int .i64 i)]) (fun _ => []) (fun i => i ≤ n ∧ (a = b ↔ a.drop i = b.drop i)) (fun i => n - i) 0 ?_ ?_ ?_
  · simp
  · simp
  · rintro i ⟨h1, h2⟩
    by_cases hi : i < n
    · obtain ⟨r, hx, hd⟩ := get_drop (l := a) (i := i) (by omega)
      obtain ⟨t, hy, he⟩ := get_drop (l := b) (i := i) (by omega)
      rw [hd, he, List.cons.injEq] at h2
      have w1 : IntKind.i64.wrap ((i : Int) + 1) = i + 1 := wrap_in (by omega)
      clear hd he
      by_cases hrt : r = t
      · subst hrt
        simp [hn, hm, hi, hx, hy, gE hx, gE hy, w1]
        exact ⟨i + 1, ⟨by omega, by simpa using h2⟩, by omega, by simp⟩
      · have hne : ¬ (a = b) := by rw [h2]; simp [hrt]
        have hor : ¬ r.Ty = t.Ty ∨ ¬ r.ID = t.ID ∨ ¬ r.Len = t.Len ∨ ¬ r.Router = t.Router ∨ ¬ r.Seq = t.Seq ∨ ¬ r.Age = t.Age ∨ ¬ r.Sum = t.Sum := by
          refine Decidable.byContradiction fun q => hrt ?_
          simp only [not_or, Decidable.not_not] at q
          cases r; cases t; simp_all
        simp [hn, hm, hi, hx, hy, gE hx, gE hy, hor, hne]
    · have e : a.drop i = [] := List.drop_of_length_le (by omega)
      have e' : b.drop i = [] := List.drop_of_length_le (by omega)
      rw [e, e'] at h2
      have : i = n := by omega
      subst this
      simp [hn, h2]
end Go.Proofs.Ytmgkemffbmfmpaa

namespace Go.Proofs.Ytmgkemffbmfmpaa
open Go Go.Am

theorem row_split {l : List Lsa} {i : Nat} {x : Lsa} (h : l[i]? = some x) : l = l.take i ++ x :: l.drop (i + 1) ∧ (l.take i).length = i := by
  have hi := (List.getElem?_eq_some_iff.1 h).1
  obtain ⟨y, hy, hd⟩ := get_drop (l := l) (i := i) hi
  rw [h] at hy
  injection hy with hy
  subst hy
  refine ⟨?_, by simp; omega⟩
  rw [← hd, List.take_append_drop]
theorem rowA_cut {l : List Lsa} {i : Nat} {x : Lsa} (h : l[i]? = some x) : ∃ A B : List AVal, rowC cellsA l = A ++ (cellsA x ++ B) ∧ A.length = i * 15 ∧ ∀ y, rowC cellsA (l.set i y) = A ++ (cellsA y ++ B) := by
  obtain ⟨e, hl⟩ := row_split h
  refine ⟨rowC cellsA (l.take i), rowC cellsA (l.drop (i + 1)), ?_, by rw [eA.rowLen, hl], fun y => ?_⟩
  · conv => lhs; rw [e]
    rw [rowC_app, rowC_cons]
  · conv => lhs; rw [e]
    rw [List.set_append_right _ _ (by omega), hl, Nat.sub_self, List.set_cons_zero, rowC_app, rowC_cons]
theorem rowA_age {l : List Lsa} {i : Nat} {x : Lsa} (h : l[i]? = some x) : (rowC cellsA l)[i * 15 + 5]? = some (.int .i64 x.H.Age) := by
  obtain ⟨A, B, e, hA, _⟩ := rowA_cut h
  rw [e, List.getElem?_append_right (by omega), show i * 15 + 5 - A.length = 5 by omega]
  rfl
theorem rowA_hdr {l : List Lsa} {i : Nat} {x : Lsa} (h : l[i]? = some x) : aload (some (true, 7)) (rowC cellsA l) (i * 15) = some (encH x.H) := by
  obtain ⟨A, B, e, hA, _⟩ := rowA_cut h
  rw [e, ← hA]
  simp only [aload, List.drop_left']
  rw [if_pos]
  · rfl
  · exact ⟨by omega, by simp, rfl⟩
theorem rowA_set {l : List Lsa} {i : Nat} {x : Lsa} (h : l[i]? = some x) (a : Int) : (rowC cellsA l).set (i * 15 + 5) (.int .i64 a) = rowC cellsA (l.set i { x with H := { x.H with Age := a } }) := by
  obtain ⟨A, B, e, hA, hs⟩ := rowA_cut h
  rw [hs, e, List.set_append_right _ _ (by omega), show i * 15 + 5 - A.length = 5 by omega]
  rfl
end Go.Proofs.Ytmgkemffbmfmpaa

namespace Go.Proofs.Ytmgkemffbmfmpaa
open Go Go.Am

/-- Half of the way. -/
def advL (s : Int) (l : List Lsa) (i : Nat) : List Lsa := (l.take i).map (advA s) ++ l.drop i
def keysL (s : Int) (l : List Lsa) (i : Nat) : List LKey := ((l.take i).filter fun x => expS s x.H.Age).map keyA
def clS (s : Int) : Int := if 3600 < (if s < 0 then 0 else s) then 3600 else if s < 0 then 0 else s
theorem adv_next {s : Int} {l : List Lsa} {i : Nat} {x : Lsa} (h : l[i]? = some x) : (advL s l i)[i]? = some x ∧ (advL s l i).set i (advA s x) = advL s l (i + 1) ∧ keysL s l (i + 1) = keysL s l i ++ (if expS s x.H.Age = true then [keyA x] else []) := by
  obtain ⟨e, hl⟩ := row_split h
  have hi := (List.getElem?_eq_some_iff.1 h).1
  have hd : l.drop i = x :: l.drop (i + 1) := by
    obtain ⟨y, hy, hd⟩ := get_drop (l := l) (i := i) hi
    rw [h] at hy
    injection hy with hy
    subst hy
    exact hd
  have ht : l.take (i + 1) = l.take i ++ [x] := by rw [List.take_add_one, h]; rfl
  have hl2 : ((l.take i).map (advA s)).length = i := by rw [List.length_map, hl]
  refine ⟨?_, ?_, ?_⟩
  · rw [advL, hd, List.getElem?_append_right (by omega), hl2, Nat.sub_self]; rfl
  · rw [advL, hd, List.set_append_right _ _ (by omega), hl2, Nat.sub_self, List.set_cons_zero, advL, ht]
    simp
  · rw [keysL, keysL, ht, List.filter_append, List.map_append]
    congr 1
    cases h : expS s x.H.Age <;> simp [h]
end Go.Proofs.Ytmgkemffbmfmpaa
