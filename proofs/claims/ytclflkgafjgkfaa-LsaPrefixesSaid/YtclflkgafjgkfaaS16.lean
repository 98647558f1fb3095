import Derived.Test.YtclflkgafjgkfaaS15
set_option linter.unusedSimpArgs false
set_option linter.unusedVariables false
namespace Go.Proofs.Ytclflkgafjgkfaa
open Go Go.Am

def okK (x : Lnk) : Prop := inW x.ID ∧ inW x.Data

set_option maxHeartbeats 4000000 in
set_option maxRecDepth 10000 in
theorem c46 (l : Lsa) (n : Nat) (hn : l.Links.length = n) (hok : ∀ x ∈ l.Links, okK x) : CFun Try.prog 46 [encA l] [] (.int .i64 (chkLinks l.Links l.H.Router)) [] := by
  refine CFun.intro (tr := []) (fz := []) (n := 75) (rs := [.tmp 2]) Try.func46 rfl (by kernel_rfl) rfl rfl mixed (by kernel_rfl) (by simp) (by simp) ?_
  have h48 : ∀ n lo hi H, CFun Try.prog 48 [.int .i64 n, .int .i64 lo, .int .i64 hi] H (.bool (inR n lo hi)) H := fun n lo hi H => (c48 n lo hi).up' H rfl rfl
  have hc : (l.Links.length : Int) = n := by omega
  by_cases h64 : (64 : Int) < n
  · have : 64 < l.Links.length := by omega
    simp [hc, h64, chkLinks, this]
  have hs : chkLinks l.Links l.H.Router = chkKs l.H.Router none l.Links := by rw [chkLinks, if_neg (by omega)]
  rw [hs]
  simp [hc, h64]
  refine LoopK.intro (tr := []) mixed (by kernel_rfl) (fun i : Nat => [(1, .ptr 0 0), (3, .int .i64 i)]) (fun _ => [cellsA l]) (fun i => i ≤ n ∧ chkKs l.H.Router none l.Links = chkKs l.H.Router (prevK l.Links i) (l.Links.drop i)) (fun i => n - i) 0 ?_ ?_ ?_
  · simp [prevK]
  · simp
  · rintro i ⟨i1, i2⟩
    by_cases hi : i < n
    · obtain ⟨x, hx, hd⟩ := get_drop (l := l.Links) (i := i) (by omega)
      obtain ⟨ok1, ok2⟩ := hok x (List.mem_of_getElem? hx)
      rw [hd] at i2
      simp only [chkKs] at i2
      have w1 : IntKind.i64.wrap ((i : Int) + 1) = i + 1 := wrap_in (by omega)
      have hx' : ((i : Int).toNat) = i := by omega
      simp [hc, hi, hx]
      refine ⟨_, _, .inl (h48 _ _ _ _), by simp, ?_⟩
      cases e1 : inR x.Kind 1 3
      · have hk : chkK x l.H.Router = 15 := by simp [chkK, e1]
        simp [hk] at i2
        simp [i2]
      simp
      refine ⟨_, _, .inl (h48 _ _ _ _), by simp, ?_⟩
      cases e2 : inR x.Cost 1 65535
      · have hk : chkK x l.H.Router = 5 := by simp [chkK, e1, e2]
        simp [hk] at i2
        simp [i2]
      have hk : chkK x l.H.Router = if (x.Kind = 1 ∧ (x.ID = 0 ∨ x.ID = l.H.Router)) ∨ (x.Kind = 3 ∧ validP x.ID (stubLen x.Data) = false) then 1 else 0 := by simp [chkK, e1, e2]
      obtain ⟨A, hA⟩ : ∃ A : Nat, x.ID = A := ⟨x.ID.toNat, by have := ok1.1; omega⟩
      have hA2 : A < 2 ^ 32 := by have := ok1.2; omega
      have h70 : ∀ d H, CFun Try.prog 70 [.int .u32 x.ID, .int .i64 d] H (.bool (validP x.ID d)) H := fun d H => by
        rw [hA]; exact (c70 A hA2 d).up' H rfl rfl
      have wD : IntKind.i64.wrap x.Data = x.Data := wrap_in (by have := ok2.1; have := ok2.2; omega)
      -- what is left where the link is good
      have good : chkK x l.H.Router = 0 → ∀ j : Nat, j + 1 = i → ∃ q, l.Links[j]? = some q ∧ chkKs l.H.Router none l.Links = if 0 ≤ ordK q x then 16 else chkKs l.H.Router (some x) (l.Links.drop (i + 1)) := by
        intro h0 j hj
        obtain ⟨q, hq, _⟩ := get_drop (l := l.Links) (i := j) (by omega)
        subst hj
        rw [if_neg (by simp [h0])] at i2
        simp only [prevK, hq] at i2
        exact ⟨q, hq, i2⟩
      have good0 : chkK x l.H.Router = 0 → i = 0 → chkKs l.H.Router none l.Links = chkKs l.H.Router (some x) (l.Links.drop (i + 1)) := by
        intro h0 hi0
        rw [if_neg (by simp [h0])] at i2
        subst hi0
        simpa [prevK] using i2
      have bad : chkK x l.H.Router = 1 → chkKs l.H.Router none l.Links = 1 := by
        intro h0
        rw [if_pos (by simp [h0])] at i2
        rw [i2, h0]
      clear i2 hd hn
      by_cases t1 : x.Kind = 1
      · by_cases t2 : x.ID = 0
        · have hb := bad (by rw [hk, if_pos (.inl ⟨t1, .inl t2⟩)])
          simp [t1, t2, hb]
        · by_cases t3 : x.ID = l.H.Router
          · have hb := bad (by rw [hk, if_pos (.inl ⟨t1, .inr t3⟩)])
            simp [t1, t3, hb]
          · have hz : chkK x l.H.Router = 0 := by rw [hk, if_neg (by omega)]
            have bk1 : (x.Kind == 1) = true := by simpa using t1
            have bk3 : (x.Kind == 3) = false := by simp [t1]
            have bi0 : (x.ID == 0) = false := by simpa using t2
            have bir : (x.ID == l.H.Router) = false := by simpa using t3
            cases i with
            | zero =>
              have g := good0 hz rfl
              have w0 : IntKind.i64.wrap 1 = 1 := by decide
              simp [bk1, bk3, bi0, bir, w0]
              exact ⟨1, ⟨by omega, by simpa [prevK, hx] using g⟩, by omega, by simp⟩
            | succ j =>
              obtain ⟨q, hq, g⟩ := good hz j rfl
              have h83 := fun H => (c83 q x).up' H rfl rfl
              have w2 : IntKind.i64.wrap (j : Int) = j := wrap_in (by omega)
              have w3 : IntKind.i64.wrap ((j : Int) + 1 + 1) = j + 1 + 1 := wrap_in (by omega)
              have h0 : (0 : Int) < ((j + 1 : Nat) : Int) := by omega
              simp only [Int.natCast_add, Int.natCast_one] at h0
              simp [bk1, bk3, bi0, bir, h0, w2, hq]
              refine ⟨_, _, .inl (h83 _), by simp, ?_⟩
              by_cases ho : 0 ≤ ordK q x
              · rw [if_pos ho] at g
                simp [ho, g]
              · rw [if_neg ho] at g
                simp [ho, w3]
                exact ⟨j + 1 + 1, ⟨by omega, by simpa [prevK, hx] using g⟩, by omega, by simp⟩
      · have bk1 : (x.Kind == 1) = false := by simpa using t1
        by_cases t4 : x.Kind = 3
        · have bk3 : (x.Kind == 3) = true := by simpa using t4
          by_cases t5 : 32 < x.Data
          · have hb := bad (by
              have : ¬ (stubLen x.Data ≤ 32) := by
                have e33 : IntKind.i64.wrap 33 = 33 := by decide
                unfold stubLen
                split
                · rw [e33]; omega
                · rw [wD]; omega
              rw [hk, if_pos (.inr ⟨t4, by simp [validP, this]⟩)])
            simp [bk1, bk3, t5, hb]
          · have hst : stubLen x.Data = x.Data := by
              unfold stubLen
              rw [if_neg (by omega), wD]
            simp [bk1, bk3, t5, wD]
            refine ⟨_, _, .inl (h70 _ _), by simp, ?_⟩
            cases e8 : validP x.ID x.Data
            · have hb := bad (by rw [hk, if_pos (.inr ⟨t4, by rw [hst]; exact e8⟩)])
              simp [hb]
            · have hz : chkK x l.H.Router = 0 := by
                rw [hk, if_neg]
                rintro (⟨h, _⟩ | ⟨_, h⟩)
                · exact t1 h
                · rw [hst, e8] at h; cases h
              cases i with
              | zero =>
                have g := good0 hz rfl
                have w0 : IntKind.i64.wrap 1 = 1 := by decide
                simp [w0]
                exact ⟨1, ⟨by omega, by simpa [prevK, hx] using g⟩, by omega, by simp⟩
              | succ j =>
                obtain ⟨q, hq, g⟩ := good hz j rfl
                have h83 := fun H => (c83 q x).up' H rfl rfl
                have w2 : IntKind.i64.wrap (j : Int) = j := wrap_in (by omega)
                have w3 : IntKind.i64.wrap ((j : Int) + 1 + 1) = j + 1 + 1 := wrap_in (by omega)
                have h0 : (0 : Int) < ((j + 1 : Nat) : Int) := by omega
                simp only [Int.natCast_add, Int.natCast_one] at h0
                simp [h0, w2, hq]
                refine ⟨_, _, .inl (h83 _), by simp, ?_⟩
                by_cases ho : 0 ≤ ordK q x
                · rw [if_pos ho] at g
                  simp [ho, g]
                · rw [if_neg ho] at g
                  simp [ho, w3]
                  exact ⟨j + 1 + 1, ⟨by omega, by simpa [prevK, hx] using g⟩, by omega, by simp⟩
        · have bk3 : (x.Kind == 3) = false := by simpa using t4
          have hz : chkK x l.H.Router = 0 := by
            rw [hk, if_neg]
            rintro (⟨h, _⟩ | ⟨h, _⟩)
            · exact t1 h
            · exact t4 h
          cases i with
          | zero =>
            have g := good0 hz rfl
            have w0 : IntKind.i64.wrap 1 = 1 := by decide
            simp [bk1, bk3, w0]
            exact ⟨1, ⟨by omega, by simpa [prevK, hx] using g⟩, by omega, by simp⟩
          | succ j =>
            obtain ⟨q, hq, g⟩ := good hz j rfl
            have h83 := fun H => (c83 q x).up' H rfl rfl
            have w2 : IntKind.i64.wrap (j : Int) = j := wrap_in (by omega)
            have w3 : IntKind.i64.wrap ((j : Int) + 1 + 1) = j + 1 + 1 := wrap_in (by omega)
            have h0 : (0 : Int) < ((j + 1 : Nat) : Int) := by omega
            simp only [Int.natCast_add, Int.natCast_one] at h0
            simp [bk1, bk3, h0, w2, hq]
            refine ⟨_, _, .inl (h83 _), by simp, ?_⟩
            by_cases ho : 0 ≤ ordK q x
            · rw [if_pos ho] at g
              simp [ho, g]
            · rw [if_neg ho] at g
              simp [ho, w3]
              exact ⟨j + 1 + 1, ⟨by omega, by simpa [prevK, hx] using g⟩, by omega, by simp⟩
    · have e : l.Links.drop i = [] := List.drop_of_length_le (by omega)
      rw [e] at i2
      simp [chkKs] at i2
      simp [hc, hi, i2]
end Go.Proofs.Ytclflkgafjgkfaa
