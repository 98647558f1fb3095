import Derived.Test.YtlpgadlfpigbhaaL14
set_option linter.unusedSimpArgs false
set_option linter.unusedVariables false
namespace Go.Proofs.Ytlpgadlfpigbhaa
open Go Go.Am

theorem flatB_noid (l : List Bnd) : (flatB l).all noid0 = true := by
  induction l with
  | nil => rfl
  | cons b l ih => simp only [flatB, List.flatMap_cons, List.all_append] at ih ⊢; rw [ih]; rfl
theorem row_noid (l : List Bnd) (m : Nat) : (flatB l ++ List.replicate m AVal.undef).all noid0 = true := by
  rw [List.all_append, flatB_noid, List.all_eq_true.2]
  · rfl
  · intro y hy
    rw [(List.mem_replicate.1 hy).2]
    rfl
theorem cellsB_noid (b : Bnd) : (cellsB b).all noid0 = true := rfl

/-- Bind's predicate, among any variables of the caller's. -/
theorem c38g (x b : Bnd) (H : List (List AVal)) (id : Nat) (h : H[id]? = some (cellsB b)) : CFun Try.prog 38 [encB x, .ptr id 0] H (.bool (grB x b)) H := by
  have := (c38 x b).at (id := id) (H := H) h rfl rfl (by simp [low, low0]) rfl
  have e : H.set id (cellsB b) = H := by
    apply List.ext_getElem?
    intro j
    rw [List.getElem?_set]
    split
    · rename_i e; subst e; rw [h]; simp [(List.getElem?_eq_some_iff.1 h).1]
    · rfl
  have e' : H.set id [AVal.int IntKind.u32 b.P.Addr, AVal.int IntKind.i64 b.P.Len, AVal.int IntKind.u32 b.Peer, AVal.int IntKind.i64 b.Label] = H := e
  rw [e'] at this
  exact this

/-- Unbind's list. -/
def delL (l : List Bnd) (p : Pfx) (peer : Int) : List Bnd := l.filter fun x => !isB p peer x

/-- Where a binding stands, or none. -/
theorem c43' (b : Bnd) (p : Pfx) (peer : Int) : CFun Try.prog 43 ([] ++ [encB b] ++ [.iptr (cellsP p) 0, .iptr [.int .u32 peer] 0]) [] (.bool (isB p peer b)) [] := c43 b p peer

/-- What Find answers. -/
def findB (l : List Bnd) (p : Pfx) (peer : Int) : Int × Bool := match l.find? (isB p peer) with
  | some b => (b.Label, true)
  | none => (0, false)

theorem idxL_find {α : Type} (p : α → Bool) (l : List α) (k : Nat) : (idxL p l k = -1 ∧ l.find? p = none ∧ ∀ x ∈ l, p x = false) ∨ ∃ i x, idxL p l k = ((k + i : Nat) : Int) ∧ l[i]? = some x ∧ l.find? p = some x ∧ ∀ y ∈ l.take i, p y = false := by
  induction l generalizing k with
  | nil => exact .inl ⟨rfl, rfl, by simp⟩
  | cons x l ih =>
    simp only [idxL, List.find?_cons]
    by_cases h : p x = true
    · exact .inr ⟨0, x, by simp [h], rfl, by simp [h], by simp⟩
    · simp only [h]
      rcases ih (k + 1) with ⟨h1, h2, h3⟩ | ⟨i, y, h1, h2, h3, h4⟩
      · exact .inl ⟨by simpa using h1, by simpa using h2, fun y hy => by
          rcases List.mem_cons.1 hy with rfl | hy
          · simpa using h
          · exact h3 y hy⟩
      · refine .inr ⟨i + 1, y, ?_, by simpa using h2, by simpa using h3, fun z hz => ?_⟩
        · have e : k + 1 + i = k + (i + 1) := by omega
          rw [e] at h1
          simpa using h1
        · simp only [List.take_succ_cons, List.mem_cons] at hz
          rcases hz with rfl | hz
          · simpa using h
          · exact h4 z hz

set_option maxHeartbeats 4000000 in
set_option maxRecDepth 10000 in
theorem c21 (l : List Bnd) (hlen : l.length < 1099511627776) (p : Pfx) (peer : Int) : CFun Try.prog 21 [.sl 4 (l.map encB) .sh, encP p, .int .u32 peer] [] (.tup [.int .i64 (findB l p peer).1, .bool (findB l p peer).2]) [] := by
  refine CFun.intro (tr := []) (fz := []) (n := 21) (rs := [.tmp 6, .tmp 7]) Try.func21 rfl (by kernel_rfl) rfl rfl mixed (by kernel_rfl) (by simp) (by simp) ?_
  have h35 := (c35 p peer).up' [cellsP p] rfl rfl
  have h34 := c34 l l.length rfl hlen (isB p peer) 43 [] [.iptr (cellsP p) 0, .iptr [.int .u32 peer] 0] [cellsP p] rfl (by simp) (fun x _ => (c43' x p peer).up' _ rfl rfl)
  simp
  refine ⟨_, _, .inl (by simpa using h35), trivial, ?_⟩
  simp
  refine ⟨_, _, .inl (by simpa using h34), trivial, ?_⟩
  rcases idxL_find (isB p peer) l 0 with ⟨e1, e2, _⟩ | ⟨i, x, e1, e2, e3, _⟩
  · simp [e1, findB, e2]
  · have hi : i < l.length := (List.getElem?_eq_some_iff.1 e2).1
    have h0 : ¬ ((i : Int) < 0) := by omega
    simp only [Nat.zero_add] at e1
    have e5 : l[i] = x := by rw [List.getElem?_eq_getElem hi] at e2; injection e2
    simp [e1, findB, e3, h0, hi, e5]

set_option maxHeartbeats 4000000 in
set_option maxRecDepth 10000 in
theorem c22 (l : List Bnd) (n : Nat) (hn : (l.length : Int) = n) (hlen : n < 1099511627776) (p : Pfx) (peer : Int) : CFun Try.prog 22 [.sl 4 (l.map encB) .sh, encP p, .int .u32 peer] [] (.tup [.int .i64 (findB l p peer).1, .bool (findB l p peer).2]) [] := by
  refine CFun.intro (tr := []) (fz := []) (n := 29) (rs := [.tmp 6, .tmp 7]) Try.func22 rfl (by kernel_rfl) rfl rfl mixed (by kernel_rfl) (by simp) (by simp) ?_
  simp [hn]
  refine LoopK.intro (tr := []) mixed (by kernel_rfl) (fun i : Nat => [(2, .int .u32 peer), (4, .ptr 0 0), (10, .sl 4 (l.map encB) .sh), (11, .int .i64 n), (12, .int .i64 i)]) (fun _ => [cellsP p]) (fun i => i ≤ n ∧ findB l p peer = findB (l.drop i) p peer) (fun i => n - i) 0 ?_ ?_ ?_
  · simp
  · simp
  · rintro i ⟨h1, h2⟩
    by_cases hi : i < n
    · obtain ⟨x, hx, hd⟩ := get_drop (l := l) (i := i) (by omega)
      rw [hd] at h2
      have w1 : IntKind.i64.wrap ((i : Int) + 1) = i + 1 := wrap_in (by omega)
      clear hd hn
      by_cases a1 : x.P.Addr = p.Addr
      · by_cases a2 : x.P.Len = p.Len
        · by_cases a3 : x.Peer = peer
          · have hp : isB p peer x = true := by simp [isB, a3]; cases h : x.P; cases p; simp_all
            simp [findB, hp] at h2
            simp [hi, hx, a1, a2, a3, h2, findB]
          · have hp : isB p peer x = false := by simp [isB, a3]
            simp [hi, hx, a1, a2, a3, w1]
            refine ⟨i + 1, ⟨by omega, ?_⟩, by omega, ?_⟩
            · rw [h2]; simp [findB, hp]
            · simp
        · have hp : isB p peer x = false := by simp [isB]; intro e; rw [e] at a2; exact absurd rfl a2
          simp [hi, hx, a1, a2, w1]
          refine ⟨i + 1, ⟨by omega, ?_⟩, by omega, ?_⟩
          · rw [h2]; simp [findB, hp]
          · simp
      · have hp : isB p peer x = false := by simp [isB]; intro e; rw [e] at a1; exact absurd rfl a1
        simp [hi, hx, a1, w1]
        refine ⟨i + 1, ⟨by omega, ?_⟩, by omega, ?_⟩
        · rw [h2]; simp [findB, hp]
        · simp
    · have e : l.drop i = [] := List.drop_of_length_le (by omega)
      rw [e] at h2
      simp [findB] at h2
      simp [hi, h2, findB]
end Go.Proofs.Ytlpgadlfpigbhaa
