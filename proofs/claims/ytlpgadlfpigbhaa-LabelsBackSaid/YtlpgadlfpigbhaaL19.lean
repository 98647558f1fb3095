import Derived.Test.YtlpgadlfpigbhaaL18
set_option linter.unusedSimpArgs false
set_option linter.unusedVariables false
namespace Go.Proofs.Ytlpgadlfpigbhaa
open Go Go.Am

/-- Where the first one stands, or the end. -/
def posF {α : Type} (p : α → Bool) (l : List α) : Nat := (l.takeWhile fun x => !p x).length
theorem posF_spec {α : Type} (p : α → Bool) (l : List α) (k : Nat) : (idxL p l k = -1 ∧ posF p l = l.length) ∨ (idxL p l k = ((k + posF p l : Nat) : Int) ∧ posF p l < l.length) := by
  induction l generalizing k with
  | nil => exact .inl ⟨rfl, rfl⟩
  | cons x l ih =>
    by_cases h : p x = true
    · right
      simp [idxL, posF, h]
    · have e : posF p (x :: l) = posF p l + 1 := by simp [posF, h]
      rw [e]
      simp only [idxL, h]
      rw [if_neg (by simp)]
      rcases ih (k + 1) with ⟨h1, h2⟩ | ⟨h1, h2⟩
      · exact .inl ⟨by simpa using h1, by simp [h2]⟩
      · refine .inr ⟨?_, by simpa using h2⟩
        have e2 : k + 1 + posF p l = k + (posF p l + 1) := by omega
        rw [e2] at h1
        simpa using h1
theorem posF_le {α : Type} (p : α → Bool) (l : List α) : posF p l ≤ l.length := by
  rcases posF_spec p l 0 with ⟨_, h⟩ | ⟨_, h⟩ <;> omega

/-- What Bind answers. -/
def bindL (l : List Bnd) (b : Bnd) : List Bnd := insB (delL l b.P b.Peer) (posF (fun x => grB x b) (delL l b.P b.Peer)) b

set_option maxHeartbeats 1000000 in
set_option maxRecDepth 10000 in
theorem c26 (l : List Bnd) (n : Nat) (hn : l.length = n) (hlen : n < 1099511627776) (b : Bnd) : CFun Try.prog 26 [.sl 4 (l.map encB) .sh, encB b] [] (.sl 4 ((bindL l b).map encB) .sh) [] := by
  refine CFun.intro (tr := []) (fz := []) (n := 27) (rs := [.tmp 4]) Try.func26 rfl (by kernel_rfl) rfl rfl mixed (by kernel_rfl) (by simp) (by simp) ?_
  by_cases h0 : n = 0
  · have hl : l = [] := List.eq_nil_of_length_eq_zero (by omega)
    subst hl
    have h37 := c37e.up' [cellsB b] rfl rfl
    have h35 := (c35 b.P b.Peer).up' [cellsB b] rfl rfl
    have h36 := (c36e 43 [] [.iptr (cellsP b.P) 0, .iptr [.int .u32 b.Peer] 0] rfl rfl (isB b.P b.Peer) (fun x => c43' x b.P b.Peer)).up' [cellsB b] rfl rfl
    have h34 := (c34 [] 0 rfl (by omega) (fun x => grB x b) 38 [] [.ptr 0 0] [cellsB b] (by simp [low, low0]) (by simp [cellsB]) (fun x hx => by cases hx)).wk [.sl 4 [] .full, .fn 38 [] [.ptr 0 0]] (by simp) (by simp)
    have h40 := ((c40e b).wk [.sl 4 [] .full, .int .i64 0, .sl 4 [encB b] .full] (by simp) (by simp)).up' [cellsB b] rfl rfl
    simp
    refine ⟨_, _, .inl (by simpa [cellsB] using h37), by simp, ?_⟩
    simp
    refine ⟨_, _, .inl (by simpa [cellsB] using h35), by simp, ?_⟩
    simp
    refine ⟨_, _, .inl (by simpa [cellsB] using h36), by simp, ?_⟩
    simp
    refine ⟨_, _, .inl (by simpa [cellsB] using h34), by simp, ?_⟩
    simp [idxL]
    refine ⟨_, _, .inl (by simpa [cellsB] using h40), by simp, ?_⟩
    simp [bindL, delL, insB, posF]
  · have h37 := (c37 l (by rintro rfl; simp at hn; omega) (by omega)).upNew [cellsB b] (flatB_noid l) rfl rfl
    have h35 := (c35 b.P b.Peer).up' [cellsB b, flatB l] rfl rfl
    have h36 := (c36 l n hn hlen (isB b.P b.Peer) 43 [] [.iptr (cellsP b.P) 0, .iptr [.int .u32 b.Peer] 0] rfl rfl (fun x => c43' x b.P b.Peer)).at (H := [cellsB b, flatB l]) (id := 1) rfl (flatB_noid l) (delRow_noid _ _) (by simp [low, low0]) rfl
    have e36 : (l.filter fun x => !isB b.P b.Peer x) = delL l b.P b.Peer := rfl
    rw [e36] at h36
    have hq : (delL l b.P b.Peer).length ≤ n := by have := List.length_filter_le (fun x => !isB b.P b.Peer x) l; simp only [delL]; omega
    have hrow : delRow (isB b.P b.Peer) l = flatB (delL l b.P b.Peer) ++ List.replicate ((n - (delL l b.P b.Peer).length) * 4) .undef := by rw [← hn]; rfl
    rw [hrow] at h36
    rw [bindL]
    simp
    refine ⟨_, _, .inl (by simpa [cargs, cellsB] using h37), by simp, ?_⟩
    simp
    refine ⟨_, _, .inl (by simpa [cellsB] using h35), by simp, ?_⟩
    simp
    refine ⟨_, _, .inl (by simpa [ren, ren0, hn, cellsB] using h36), by simp, ?_⟩
    clear h36 hrow e36
    generalize delL l b.P b.Peer = q at hq ⊢
    obtain ⟨k, hk⟩ : ∃ k, q.length = k := ⟨_, rfl⟩
    rw [hk] at hq ⊢
    generalize hM : (n - k) * 4 = M
    have h34 := c34r q (List.replicate M .undef) k hk (by omega) (fun x => grB x b) 38 [] [.ptr 0 0] [cellsB b, flatB q ++ List.replicate M .undef] 1 none rfl (by simp [low, low0]) (by simp [cellsB, row_le]) (fun x _ => c38g x b _ 0 rfl)
    simp
    refine ⟨_, _, .inl (by simpa [cellsB] using h34), by simp, ?_⟩
    have h40 : ∀ i, i ≤ k → CFun Try.prog 40 [.osl 1 0 k none 4, .int .i64 i, .sl 4 [encB b] .full] [cellsB b, flatB q ++ List.replicate M .undef] (.sl 4 ((insB q i b).map encB) .sh) [cellsB b, []] :=
      fun i hi => ((c40 q i k M hk (by omega) hi b (by omega)).wk [.osl 0 0 k none 4, .int .i64 i, .sl 4 [encB b] .full] (by simp) (by simp)).at (cs := flatB q ++ List.replicate M .undef) (H := [cellsB b, flatB q ++ List.replicate M .undef]) (id := 1) rfl (row_noid _ _) rfl (by simp [low, low0]) rfl
    rcases posF_spec (fun x => grB x b) q 0 with ⟨e1, e2⟩ | ⟨e1, e2⟩
    · rw [e2, hk]
      simp [e1]
      refine ⟨_, _, .inl (by simpa [cellsB] using h40 k (Nat.le_refl _)), by simp, ?_⟩
      simp
    · rw [Nat.zero_add] at e1
      rw [hk] at e2
      generalize posF (fun x => grB x b) q = i at e1 e2 ⊢
      have hi : ¬ ((i : Int) < 0) := by omega
      simp [e1, hi]
      refine ⟨_, _, .inl (by simpa [cellsB] using h40 i (by omega)), by simp, ?_⟩
      simp
end Go.Proofs.Ytlpgadlfpigbhaa
