/- Fits of the program, its walk. -/
import Derived.Test.YtgcnlmcpmocbhaaC8
set_option linter.unusedSimpArgs false
set_option linter.unusedVariables false
namespace Go.Proofs.Ytgcnlmcpmocbhaa
open Go Go.Am

-- cspf.Fits
set_option maxHeartbeats 8000000 in
set_option maxRecDepth 10000 in
theorem c18 (l : List Lnk) (k : Nat) (hk : l.length = k) (hk2 : k < 9223372036854775807) (p : List Int) (m : Nat) (hm : p.length = m) (hm2 : m < 9223372036854775807) (c : Con) (n t : Nat) (hn : c.Avoid.length = n) (hlen : n < 9223372036854775807) (ht : c.Thru.length = t) (ht2 : t < 9223372036854775807) (N : Int) :
    CFun Try.prog 18 [.int .i64 N, .sl 13 (l.map encL) .sh, .sl 1 (p.map encI) .sh, encC c] [] (.bool (fitsP N l p c)) [] := by
  refine CFun.intro (tr := []) (fz := []) (n := 86) (rs := [.tmp 8]) Try.func18 rfl (by kernel_rfl) rfl rfl mixed (by kernel_rfl) (by simp) (by simp) ?_
  have h1 := fun H => (c12 l k hk hk2 c N n t hn ht hlen ht2).up' H (by simp [noid, noid0]) rfl
  have h2 := fun H => (c32 p m hm hm2).up' H (by simp [noid, noid0]) rfl
  have h3 := fun a H => (c24 c.Avoid n hn hlen a).up' H (by simp [noid, noid0]) rfl
  have h4 := fun a b c H => (c23 a b c).up' H rfl rfl
  generalize hu : fitsP N l p c = u
  unfold fitsP at hu
  rw [hm] at hu
  generalize hce : checkE N l c = ce at hu h1
  simp
  refine ⟨_, _, .inl (by simpa using h1 _), by simp, ?_⟩
  by_cases g1 : ce = 0
  case neg =>
    rw [if_pos g1] at hu
    subst hu
    simp [g1]
  rw [if_neg (by simpa using g1)] at hu
  by_cases g2 : m = 0
  · rw [if_pos g2] at hu
    subst hu
    simp [g1, hm, g2]
  rw [if_neg g2] at hu
  generalize repB p = rp at hu h2
  simp [g1, hm, g2]
  refine ⟨_, _, .inl (by simpa using h2 _), by simp, ?_⟩
  cases rp with
  | true =>
    rw [if_pos rfl] at hu
    subst hu
    simp
  | false =>
  rw [if_neg (by simp)] at hu
  have w1 : IntKind.i64.wrap ((m : Int) - 1) = (m : Int) - 1 := wrap_in (by omega)
  have hN : inI N ∧ 1 ≤ N ∧ N ≤ 128 := by
    rw [g1] at hce
    unfold checkE at hce
    by_cases q : N < 1 ∨ 128 < N
    · rw [if_pos q] at hce; cases hce
    · exact ⟨by unfold inI; omega, by omega, by omega⟩
  have w2 : IntKind.i64.wrap (N - 1) = N - 1 := wrap_in (by have := hN.2; omega)
  by_cases g3 : 0 < c.Hops ∧ c.Hops < (m : Int) - 1
  · rw [if_pos g3] at hu
    subst hu
    simp [g3, w1, hm]
  rw [if_neg g3] at hu
  have alt : ¬ 0 < c.Hops ∨ 0 < c.Hops ∧ ¬ c.Hops < (m : Int) - 1 := by omega
  have hf := fun i x a hi => c36 l k hk hk2 p m hm hm2 c n hn hlen i x a hi
  clear h1 h2 hce g3
  rcases alt with g3 | ⟨g3, g4⟩
  case inl =>
    simp [g3]
    refine LoopK.intro (tr := []) mixed (by kernel_rfl) (fun q : Nat × Nat => [(0, .int .i64 N), (1, .sl 13 (l.map encL) .sh), (6, .ptr 0 0), (7, .ptr 1 0), (9, .int .i64 q.2), (39, .sl 1 (p.map encI) .sh), (40, .int .i64 m), (41, .int .i64 q.1)]) (fun _ => [[.sl 1 (p.map encI) .sh], cellsC c])
      (fun q => q.1 ≤ m ∧ q.2 ≤ q.1 ∧ u = goP l c N (prevI p q.1) q.2 (p.drop q.1)) (fun q => m - q.1) (0, 0) ?_ ?_ ?_
    · simp [prevI, hu]
    · simp [hm]
    · rintro ⟨i, j⟩ ⟨h1, h2, h5⟩
      simp only at h1 h2 h5
      by_cases hi : i < m
      · obtain ⟨x, hx, hd⟩ := get_drop (l := p) (i := i) (by omega)
        rw [hd] at h5
        simp only [goP] at h5
        have w3 : IntKind.i64.wrap ((i : Int) + 1) = i + 1 := wrap_in (by omega)
        have w4 : IntKind.i64.wrap ((j : Int) + 1) = j + 1 := wrap_in (by omega)
        have hp1 : prevI p (i + 1) = some x := hx
        clear hd
        have e3 := h3 x
        generalize hasB c.Avoid x = av at e3 h5
        simp [hi, hm, hx, gE hx, w2]
        refine ⟨_, _, .inl (by simpa using h4 _ _ _ _), by simp, ?_⟩
        by_cases a1 : outN N x = true
        · rw [if_pos a1] at h5
          subst h5
          simp [outN] at a1
          have a1' : x < 0 ∨ N - 1 < x := by omega
          simp [a1']
        rw [if_neg a1] at h5
        simp [outN] at a1
        have a1' : ¬ x < 0 ∧ ¬ N - 1 < x := by omega
        simp [a1']
        refine ⟨_, _, .inl (by simpa using e3 _), by simp, ?_⟩
        cases av with
        | true =>
          rw [if_pos rfl] at h5
          subst h5
          simp
        | false =>
        rw [if_neg (by simp)] at h5
        by_cases b1 : c.Thru[j]? = some x
        · rw [if_pos b1] at h5
          have b2 : j < t := by rw [← ht]; exact (List.getElem?_eq_some_iff.1 b1).1
          cases i with
          | zero =>
            simp only [prevI] at h5
            simp only [Bool.false_eq_true, if_false] at h5
            simp [b1, b2, gE b1, ht, w4]
            simp at w3
            exact ⟨1, j + 1, ⟨by omega, by omega, by rw [hp1]; exact h5⟩, by omega, by first | rfl | exact ⟨by simp, rfl⟩ | exact ⟨rfl, rfl⟩ | (simp; done) | (simp; omega)⟩
          | succ i =>
            have hy : ∃ y, p[i]? = some y := ⟨p[i]'(by omega), List.getElem?_eq_getElem (by omega)⟩
            obtain ⟨y, hy⟩ := hy
            simp only [prevI, hy] at h5
            have b3 : (0 : Int) < (i : Int) + 1 := by omega
            have e := hf i x y hy
            simp [b1, b2, gE b1, ht, w4, b3]
            refine ⟨_, _, .inl (by simpa using e), by simp, ?_⟩
            generalize linkedB l c y x = lb at h5
            cases lb with
            | true =>
              simp at w3
              simp [w3]
              simp only [Bool.not_true, Bool.false_eq_true, if_false] at h5
              exact ⟨i + 2, j + 1, ⟨by omega, by omega, by rw [hp1]; exact h5⟩, by omega, by first | rfl | exact ⟨by simp, rfl⟩ | exact ⟨rfl, rfl⟩ | (simp; done) | (simp; omega)⟩
            | false =>
              simp at h5
              subst h5
              simp
        · rw [if_neg b1] at h5
          by_cases b2 : j < t
          · obtain ⟨z, hz, _⟩ := get_drop (l := c.Thru) (i := j) (by omega)
            have b4 : ¬ z = x := by rintro rfl; exact b1 hz
            cases i with
            | zero =>
              simp only [prevI] at h5
              simp only [Bool.false_eq_true, if_false] at h5
              simp [hz, b2, gE hz, ht, b4]
              simp at w3
              exact ⟨1, j, ⟨by omega, by omega, by rw [hp1]; exact h5⟩, by omega, by first | rfl | exact ⟨by simp, rfl⟩ | exact ⟨rfl, rfl⟩ | (simp; done) | (simp; omega)⟩
            | succ i =>
              have hy : ∃ y, p[i]? = some y := ⟨p[i]'(by omega), List.getElem?_eq_getElem (by omega)⟩
              obtain ⟨y, hy⟩ := hy
              simp only [prevI, hy] at h5
              have b3 : (0 : Int) < (i : Int) + 1 := by omega
              have e := hf i x y hy
              simp [hz, b2, gE hz, ht, b4, b3]
              refine ⟨_, _, .inl (by simpa using e), by simp, ?_⟩
              generalize linkedB l c y x = lb at h5
              cases lb with
              | true =>
                simp at w3
                simp [w3]
                simp only [Bool.not_true, Bool.false_eq_true, if_false] at h5
                exact ⟨i + 2, j, ⟨by omega, by omega, by rw [hp1]; exact h5⟩, by omega, by first | rfl | exact ⟨by simp, rfl⟩ | exact ⟨rfl, rfl⟩ | (simp; done) | (simp; omega)⟩
              | false =>
                simp at h5
                subst h5
                simp
          · cases i with
            | zero =>
              simp only [prevI] at h5
              simp only [Bool.false_eq_true, if_false] at h5
              simp [b2, ht]
              simp at w3
              exact ⟨1, j, ⟨by omega, by omega, by rw [hp1]; exact h5⟩, by omega, by first | rfl | exact ⟨by simp, rfl⟩ | exact ⟨rfl, rfl⟩ | (simp; done) | (simp; omega)⟩
            | succ i =>
              have hy : ∃ y, p[i]? = some y := ⟨p[i]'(by omega), List.getElem?_eq_getElem (by omega)⟩
              obtain ⟨y, hy⟩ := hy
              simp only [prevI, hy] at h5
              have b3 : (0 : Int) < (i : Int) + 1 := by omega
              have e := hf i x y hy
              simp [b2, ht, b3]
              refine ⟨_, _, .inl (by simpa using e), by simp, ?_⟩
              generalize linkedB l c y x = lb at h5
              cases lb with
              | true =>
                simp at w3
                simp [w3]
                simp only [Bool.not_true, Bool.false_eq_true, if_false] at h5
                exact ⟨i + 2, j, ⟨by omega, by omega, by rw [hp1]; exact h5⟩, by omega, by first | rfl | exact ⟨by simp, rfl⟩ | exact ⟨rfl, rfl⟩ | (simp; done) | (simp; omega)⟩
              | false =>
                simp at h5
                subst h5
                simp
      · have : i = m := by omega
        subst this
        rw [List.drop_eq_nil_of_le (by omega)] at h5
        simp only [goP] at h5
        simp [hm, ht, h5]
        rw [Bool.eq_iff_iff]
        simp only [beq_iff_eq, decide_eq_true_eq]
        omega
  case inr =>
    simp [g3, g4, w1, hm]
    refine LoopK.intro (tr := []) mixed (by kernel_rfl) (fun q : Nat × Nat => [(0, .int .i64 N), (1, .sl 13 (l.map encL) .sh), (6, .ptr 0 0), (7, .ptr 1 0), (9, .int .i64 q.2), (39, .sl 1 (p.map encI) .sh), (40, .int .i64 m), (41, .int .i64 q.1)]) (fun _ => [[.sl 1 (p.map encI) .sh], cellsC c])
      (fun q => q.1 ≤ m ∧ q.2 ≤ q.1 ∧ u = goP l c N (prevI p q.1) q.2 (p.drop q.1)) (fun q => m - q.1) (0, 0) ?_ ?_ ?_
    · simp [prevI, hu]
    · simp [hm]
    · rintro ⟨i, j⟩ ⟨h1, h2, h5⟩
      simp only at h1 h2 h5
      by_cases hi : i < m
      · obtain ⟨x, hx, hd⟩ := get_drop (l := p) (i := i) (by omega)
        rw [hd] at h5
        simp only [goP] at h5
        have w3 : IntKind.i64.wrap ((i : Int) + 1) = i + 1 := wrap_in (by omega)
        have w4 : IntKind.i64.wrap ((j : Int) + 1) = j + 1 := wrap_in (by omega)
        have hp1 : prevI p (i + 1) = some x := hx
        clear hd
        have e3 := h3 x
        generalize hasB c.Avoid x = av at e3 h5
        simp [hi, hm, hx, gE hx, w2]
        refine ⟨_, _, .inl (by simpa using h4 _ _ _ _), by simp, ?_⟩
        by_cases a1 : outN N x = true
        · rw [if_pos a1] at h5
          subst h5
          simp [outN] at a1
          have a1' : x < 0 ∨ N - 1 < x := by omega
          simp [a1']
        rw [if_neg a1] at h5
        simp [outN] at a1
        have a1' : ¬ x < 0 ∧ ¬ N - 1 < x := by omega
        simp [a1']
        refine ⟨_, _, .inl (by simpa using e3 _), by simp, ?_⟩
        cases av with
        | true =>
          rw [if_pos rfl] at h5
          subst h5
          simp
        | false =>
        rw [if_neg (by simp)] at h5
        by_cases b1 : c.Thru[j]? = some x
        · rw [if_pos b1] at h5
          have b2 : j < t := by rw [← ht]; exact (List.getElem?_eq_some_iff.1 b1).1
          cases i with
          | zero =>
            simp only [prevI] at h5
            simp only [Bool.false_eq_true, if_false] at h5
            simp [b1, b2, gE b1, ht, w4]
            simp at w3
            exact ⟨1, j + 1, ⟨by omega, by omega, by rw [hp1]; exact h5⟩, by omega, by first | rfl | exact ⟨by simp, rfl⟩ | exact ⟨rfl, rfl⟩ | (simp; done) | (simp; omega)⟩
          | succ i =>
            have hy : ∃ y, p[i]? = some y := ⟨p[i]'(by omega), List.getElem?_eq_getElem (by omega)⟩
            obtain ⟨y, hy⟩ := hy
            simp only [prevI, hy] at h5
            have b3 : (0 : Int) < (i : Int) + 1 := by omega
            have e := hf i x y hy
            simp [b1, b2, gE b1, ht, w4, b3]
            refine ⟨_, _, .inl (by simpa using e), by simp, ?_⟩
            generalize linkedB l c y x = lb at h5
            cases lb with
            | true =>
              simp at w3
              simp [w3]
              simp only [Bool.not_true, Bool.false_eq_true, if_false] at h5
              exact ⟨i + 2, j + 1, ⟨by omega, by omega, by rw [hp1]; exact h5⟩, by omega, by first | rfl | exact ⟨by simp, rfl⟩ | exact ⟨rfl, rfl⟩ | (simp; done) | (simp; omega)⟩
            | false =>
              simp at h5
              subst h5
              simp
        · rw [if_neg b1] at h5
          by_cases b2 : j < t
          · obtain ⟨z, hz, _⟩ := get_drop (l := c.Thru) (i := j) (by omega)
            have b4 : ¬ z = x := by rintro rfl; exact b1 hz
            cases i with
            | zero =>
              simp only [prevI] at h5
              simp only [Bool.false_eq_true, if_false] at h5
              simp [hz, b2, gE hz, ht, b4]
              simp at w3
              exact ⟨1, j, ⟨by omega, by omega, by rw [hp1]; exact h5⟩, by omega, by first | rfl | exact ⟨by simp, rfl⟩ | exact ⟨rfl, rfl⟩ | (simp; done) | (simp; omega)⟩
            | succ i =>
              have hy : ∃ y, p[i]? = some y := ⟨p[i]'(by omega), List.getElem?_eq_getElem (by omega)⟩
              obtain ⟨y, hy⟩ := hy
              simp only [prevI, hy] at h5
              have b3 : (0 : Int) < (i : Int) + 1 := by omega
              have e := hf i x y hy
              simp [hz, b2, gE hz, ht, b4, b3]
              refine ⟨_, _, .inl (by simpa using e), by simp, ?_⟩
              generalize linkedB l c y x = lb at h5
              cases lb with
              | true =>
                simp at w3
                simp [w3]
                simp only [Bool.not_true, Bool.false_eq_true, if_false] at h5
                exact ⟨i + 2, j, ⟨by omega, by omega, by rw [hp1]; exact h5⟩, by omega, by first | rfl | exact ⟨by simp, rfl⟩ | exact ⟨rfl, rfl⟩ | (simp; done) | (simp; omega)⟩
              | false =>
                simp at h5
                subst h5
                simp
          · cases i with
            | zero =>
              simp only [prevI] at h5
              simp only [Bool.false_eq_true, if_false] at h5
              simp [b2, ht]
              simp at w3
              exact ⟨1, j, ⟨by omega, by omega, by rw [hp1]; exact h5⟩, by omega, by first | rfl | exact ⟨by simp, rfl⟩ | exact ⟨rfl, rfl⟩ | (simp; done) | (simp; omega)⟩
            | succ i =>
              have hy : ∃ y, p[i]? = some y := ⟨p[i]'(by omega), List.getElem?_eq_getElem (by omega)⟩
              obtain ⟨y, hy⟩ := hy
              simp only [prevI, hy] at h5
              have b3 : (0 : Int) < (i : Int) + 1 := by omega
              have e := hf i x y hy
              simp [b2, ht, b3]
              refine ⟨_, _, .inl (by simpa using e), by simp, ?_⟩
              generalize linkedB l c y x = lb at h5
              cases lb with
              | true =>
                simp at w3
                simp [w3]
                simp only [Bool.not_true, Bool.false_eq_true, if_false] at h5
                exact ⟨i + 2, j, ⟨by omega, by omega, by rw [hp1]; exact h5⟩, by omega, by first | rfl | exact ⟨by simp, rfl⟩ | exact ⟨rfl, rfl⟩ | (simp; done) | (simp; omega)⟩
              | false =>
                simp at h5
                subst h5
                simp
      · have : i = m := by omega
        subst this
        rw [List.drop_eq_nil_of_le (by omega)] at h5
        simp only [goP] at h5
        simp [hm, ht, h5]
        rw [Bool.eq_iff_iff]
        simp only [beq_iff_eq, decide_eq_true_eq]
        omega
end Go.Proofs.Ytgcnlmcpmocbhaa

/- Fits of the reference. -/
namespace Go.Proofs.Ytgcnlmcpmocbhaa
open Go Go.Am

def goR (l : List Lnk) (c : Con) : Option Int → Nat → List Int → Bool
  | _, k, [] => decide (k = c.Thru.length)
  | p, k, x :: xs => if hasB c.Avoid x = true then false
    else if (match p with | some a => !((findL l a x).2 && usableN (findL l a x).1 c) | none => false) = true then false
    else goR l c (some x) (if c.Thru[k]? = some x then k + 1 else k) xs
def fitsR (n : Int) (l : List Lnk) (p : List Int) (c : Con) : Bool :=
  if checkE n l c ≠ 0 then false else if p.length = 0 then false else if p.any (outN n) = true then false else if repB p = true then false else if 0 < c.Hops ∧ c.Hops < (p.length : Int) - 1 then false else goR l c none 0 p
theorem find_linked {l : List Lnk} (hs : l.Pairwise fun x y => ¬ (x.From = y.From ∧ x.To = y.To)) (c : Con) (a b : Int) : linkedB l c a b = ((findL l a b).2 && usableN (findL l a b).1 c) := by
  unfold linkedB findL
  induction l with
  | nil => rfl
  | cons x l ih =>
    rw [List.pairwise_cons] at hs
    rw [List.any_cons]
    by_cases h : isL a b x = true
    · rw [List.find?_cons_of_pos h]
      have hn : (l.any fun y => isL a b y && usableN y c) = false := by
        rw [List.any_eq_false]
        intro y hy
        have := hs.1 y hy
        simp [isL] at h ⊢
        intro h1 h2
        exact (this ⟨by rw [h.1, h1], by rw [h.2, h2]⟩).elim
      rw [hn, h]
      simp
    · rw [List.find?_cons_of_neg h, ← ih hs.2]
      simp [h]
/-- Links in order. -/
theorem links_asc {n : Int} : ∀ {l : List Lnk} {p : Option Lnk}, linksE n p l = 0 → (l.Pairwise fun x y => x.From < y.From ∨ x.From = y.From ∧ x.To < y.To) ∧ (∀ q, p = some q → ∀ y ∈ l, q.From < y.From ∨ q.From = y.From ∧ q.To < y.To) ∧ ∀ y ∈ l, linkE n y = 0 := by
  intro l
  induction l with
  | nil => intro p _; exact ⟨.nil, fun _ _ _ h => by simp at h, fun _ h => by simp at h⟩
  | cons x l ih =>
    intro p h
    simp only [linksE] at h
    by_cases h1 : linkE n x = 0
    · rw [if_neg (by simpa using h1)] at h
      by_cases h2 : befL p x = true
      · rw [if_pos h2] at h; cases h
      · rw [if_neg h2] at h
        obtain ⟨k1, k2, k3⟩ := ih h
        have k2' := k2 x rfl
        refine ⟨List.pairwise_cons.2 ⟨k2', k1⟩, fun q hq y hy => ?_, fun y hy => ?_⟩
        · subst hq
          have hx : q.From < x.From ∨ q.From = x.From ∧ q.To < x.To := by
            simp only [befL, Bool.or_eq_true, Bool.and_eq_true, decide_eq_true_eq, not_or, not_and] at h2
            omega
          rcases List.mem_cons.1 hy with rfl | hy
          · exact hx
          · have := k2' y hy
            omega
        · rcases List.mem_cons.1 hy with rfl | hy
          · exact h1
          · exact k3 y hy
    · rw [if_pos h1] at h
      exact (h1 h).elim
theorem check_links {n : Int} {l : List Lnk} {c : Con} (h : checkE n l c = 0) : 1 ≤ n ∧ n ≤ 128 ∧ l.length ≤ 1024 ∧ linksE n none l = 0 ∧ conE n c = 0 := by
  unfold checkE at h
  by_cases g1 : n < 1 ∨ 128 < n
  · rw [if_pos g1] at h; cases h
  rw [if_neg g1] at h
  by_cases g2 : 1024 < l.length
  · rw [if_pos g2] at h; cases h
  rw [if_neg g2] at h
  by_cases g3 : linksE n none l = 0
  · rw [if_neg (by simpa using g3)] at h
    exact ⟨by omega, by omega, by omega, g3, h⟩
  · rw [if_pos g3] at h
    exact (g3 h).elim
theorem goP_R {l : List Lnk} (hs : l.Pairwise fun x y => ¬ (x.From = y.From ∧ x.To = y.To)) (c : Con) (n : Int) : ∀ (p : List Int) (q : Option Int) (k : Nat), goP l c n q k p = (!(p.any (outN n)) && goR l c q k p) := by
  intro p
  induction p with
  | nil => intro q k; rfl
  | cons x xs ih =>
    intro q k
    simp only [goP, goR, List.any_cons]
    by_cases h1 : outN n x = true
    · simp [h1]
    have h1' : outN n x = false := by simpa using h1
    by_cases h2 : hasB c.Avoid x = true
    · simp [h1', h2]
    have h2' : hasB c.Avoid x = false := by simpa using h2
    simp only [h1', h2', Bool.false_eq_true, if_false, Bool.false_or]
    cases q with
    | none => simp only [Bool.false_eq_true, if_false]; exact ih _ _
    | some a =>
      simp only [find_linked hs c a x]
      by_cases hb : ((findL l a x).2 && usableN (findL l a x).1 c) = true
      · simp only [hb, Bool.not_true, Bool.false_eq_true, if_false]
        exact ih _ _
      · have hb' : ((findL l a x).2 && usableN (findL l a x).1 c) = false := by simpa using hb
        simp only [hb', Bool.not_false, if_true, Bool.and_false]
theorem fitsP_R (n : Int) (l : List Lnk) (p : List Int) (c : Con) : fitsP n l p c = fitsR n l p c := by
  unfold fitsP fitsR
  by_cases g1 : checkE n l c = 0
  · have g1' : ¬ (checkE n l c ≠ 0) := fun h => h g1
    have hs : l.Pairwise fun x y => ¬ (x.From = y.From ∧ x.To = y.To) := (links_asc (check_links g1).2.2.2.1).1.imp fun h => by omega
    rw [goP_R hs, if_neg g1', if_neg g1']
    by_cases g2 : p.any (outN n) = true
    · simp [g2]
    · have g2' : p.any (outN n) = false := by simpa using g2
      rw [g2']
      simp
  · have g1' : checkE n l c ≠ 0 := g1
    rw [if_pos g1', if_pos g1']
-- routingref14.Fits
set_option maxHeartbeats 8000000 in
set_option maxRecDepth 10000 in
theorem c19 (l : List Lnk) (k : Nat) (hk : l.length = k) (hk2 : k < 9223372036854775807) (p : List Int) (m : Nat) (hm : p.length = m) (hm2 : m < 9223372036854775807) (c : Con) (n t : Nat) (hn : c.Avoid.length = n) (hlen : n < 9223372036854775807) (ht : c.Thru.length = t) (ht2 : t < 9223372036854775807) (N : Int) :
    CFun Try.prog 19 [.int .i64 N, .sl 13 (l.map encL) .sh, .sl 1 (p.map encI) .sh, encC c] [] (.bool (fitsR N l p c)) [] := by
  refine CFun.intro (tr := []) (fz := []) (n := 101) (rs := [.tmp 8]) Try.func19 rfl (by kernel_rfl) rfl rfl mixed (by kernel_rfl) (by simp) (by simp) ?_
  have h1 := fun H => (c13 l k hk hk2 c N n t hn ht hlen ht2).up' H (by simp [noid, noid0]) rfl
  have h2 := fun H => (c35 p m hm hm2).up' H (by simp [noid, noid0]) rfl
  have h3 := fun a H => (c25 c.Avoid n hn hlen a).up' H (by simp [noid, noid0]) rfl
  have h4 := fun H => (c38 p m hm hm2 N).up' H (by simp [noid, noid0]) rfl
  have h5 := fun a b H => (c39 l k hk hk2 a b).up' H (by simp [noid, noid0]) (by simp [noid, noid0])
  have h6 := fun y H => (c10 y c n hn hlen).up' H (by simp [noid, noid0]) rfl
  generalize hu : fitsR N l p c = u
  unfold fitsR at hu
  rw [hm] at hu
  generalize hce : checkE N l c = ce at hu h1
  simp
  refine ⟨_, _, .inl (by simpa using h1 _), by simp, ?_⟩
  by_cases g1 : ce = 0
  case neg =>
    rw [if_pos g1] at hu
    subst hu
    simp [g1]
  rw [if_neg (by simpa using g1)] at hu
  by_cases g2 : m = 0
  · rw [if_pos g2] at hu
    subst hu
    simp [g1, hm, g2]
  rw [if_neg g2] at hu
  generalize p.any (outN N) = po at hu h4
  simp [g1, hm, g2]
  refine ⟨_, _, .inl (by simpa using h4 _), by simp, ?_⟩
  cases po with
  | true =>
    rw [if_pos rfl] at hu
    subst hu
    simp
  | false =>
  rw [if_neg (by simp)] at hu
  generalize repB p = rp at hu h2
  simp
  refine ⟨_, _, .inl (by simpa using h2 _), by simp, ?_⟩
  cases rp with
  | true =>
    rw [if_pos rfl] at hu
    subst hu
    simp
  | false =>
  rw [if_neg (by simp)] at hu
  have w1 : IntKind.i64.wrap ((m : Int) - 1) = (m : Int) - 1 := wrap_in (by omega)
  by_cases g3 : 0 < c.Hops ∧ c.Hops < (m : Int) - 1
  · rw [if_pos g3] at hu
    subst hu
    simp [g3, w1, hm]
  rw [if_neg g3] at hu
  have alt : ¬ 0 < c.Hops ∨ 0 < c.Hops ∧ ¬ c.Hops < (m : Int) - 1 := by omega
  clear h1 h2 h4 hce g3
  rcases alt with g3 | ⟨g3, g4⟩
  case inl =>
    simp [g3]
    refine LoopK.intro (tr := []) mixed (by kernel_rfl) (fun q : Nat × Nat => [(1, .sl 13 (l.map encL) .sh), (2, .sl 1 (p.map encI) .sh), (7, .ptr 0 0), (9, .int .i64 q.2), (47, .sl 1 (p.map encI) .sh), (48, .int .i64 m), (49, .int .i64 q.1)]) (fun _ => [cellsC c])
      (fun q => q.1 ≤ m ∧ q.2 ≤ q.1 ∧ u = goR l c (prevI p q.1) q.2 (p.drop q.1)) (fun q => m - q.1) (0, 0) ?_ ?_ ?_
    · simp [prevI, hu]
    · simp [hm]
    · rintro ⟨i, j⟩ ⟨h1, h2, hgo⟩
      have hf := h5
      clear h5
      have h5 := hgo
      clear hgo
      simp only at h1 h2 h5
      by_cases hi : i < m
      · obtain ⟨x, hx, hd⟩ := get_drop (l := p) (i := i) (by omega)
        rw [hd] at h5
        simp only [goR] at h5
        have w3 : IntKind.i64.wrap ((i : Int) + 1) = i + 1 := wrap_in (by omega)
        have w4 : IntKind.i64.wrap ((j : Int) + 1) = j + 1 := wrap_in (by omega)
        have hp1 : prevI p (i + 1) = some x := hx
        clear hd
        have e3 := h3 x
        generalize hasB c.Avoid x = av at e3 h5
        simp [hi, hm, hx, gE hx]
        refine ⟨_, _, .inl (by simpa using e3 _), by simp, ?_⟩
        cases av with
        | true =>
          rw [if_pos rfl] at h5
          subst h5
          simp
        | false =>
        rw [if_neg (by simp)] at h5
        by_cases b1 : c.Thru[j]? = some x
        · rw [if_pos b1] at h5
          have b2 : j < t := by rw [← ht]; exact (List.getElem?_eq_some_iff.1 b1).1
          cases i with
          | zero =>
            simp only [prevI] at h5
            simp only [Bool.false_eq_true, if_false] at h5
            simp [b1, b2, gE b1, ht, w4]
            simp at w3
            exact ⟨1, j + 1, ⟨by omega, by omega, by rw [hp1]; exact h5⟩, by omega, by first | rfl | exact ⟨by simp, rfl⟩ | exact ⟨rfl, rfl⟩ | (simp; done) | (simp; omega)⟩
          | succ i =>
            have hy : ∃ y, p[i]? = some y := ⟨p[i]'(by omega), List.getElem?_eq_getElem (by omega)⟩
            obtain ⟨y, hy⟩ := hy
            simp only [prevI, hy] at h5
            have b3 : (0 : Int) < (i : Int) + 1 := by omega
            have b5 : i < m := by omega
            have w5 : IntKind.i64.wrap ((i : Int)) = i := wrap_in (by omega)
            have w6 : IntKind.i64.wrap ((i : Int) + 1 - 1) = i := by rw [wrap_in] <;> omega
            have e := hf y x
            have e6 := h6 (findL l y x).1
            generalize (findL l y x).1 = fl at e e6 h5
            generalize (findL l y x).2 = fb at e h5
            simp [b1, b2, gE b1, ht, w4, b3, b5, w5, w6, hm, hy, gE hy]
            refine ⟨_, _, .inl (by simpa using e _), by simp, ?_⟩
            cases fb with
            | false =>
              simp at h5
              subst h5
              simp
            | true =>
              simp
              refine ⟨_, _, .inl (by simpa using e6 _), by simp, ?_⟩
              generalize usableN fl c = ub at h5
              cases ub with
              | true =>
                simp at w3
                simp [w3]
                simp only [Bool.and_true, Bool.not_true, Bool.false_eq_true, if_false] at h5
                exact ⟨i + 2, j + 1, ⟨by omega, by omega, by rw [hp1]; exact h5⟩, by omega, by first | rfl | exact ⟨by simp, rfl⟩ | exact ⟨rfl, rfl⟩ | (simp; done) | (simp; omega)⟩
              | false =>
                simp at h5
                subst h5
                simp
        · rw [if_neg b1] at h5
          by_cases b2 : j < t
          · obtain ⟨z, hz, _⟩ := get_drop (l := c.Thru) (i := j) (by omega)
            have b4 : ¬ z = x := by rintro rfl; exact b1 hz
            cases i with
            | zero =>
              simp only [prevI] at h5
              simp only [Bool.false_eq_true, if_false] at h5
              simp [hz, b2, gE hz, ht, b4]
              simp at w3
              exact ⟨1, j, ⟨by omega, by omega, by rw [hp1]; exact h5⟩, by omega, by first | rfl | exact ⟨by simp, rfl⟩ | exact ⟨rfl, rfl⟩ | (simp; done) | (simp; omega)⟩
            | succ i =>
              have hy : ∃ y, p[i]? = some y := ⟨p[i]'(by omega), List.getElem?_eq_getElem (by omega)⟩
              obtain ⟨y, hy⟩ := hy
              simp only [prevI, hy] at h5
              have b3 : (0 : Int) < (i : Int) + 1 := by omega
              have b5 : i < m := by omega
              have w5 : IntKind.i64.wrap ((i : Int)) = i := wrap_in (by omega)
              have w6 : IntKind.i64.wrap ((i : Int) + 1 - 1) = i := by rw [wrap_in] <;> omega
              have e := hf y x
              have e6 := h6 (findL l y x).1
              generalize (findL l y x).1 = fl at e e6 h5
              generalize (findL l y x).2 = fb at e h5
              simp [hz, b2, gE hz, ht, b4, b3, b5, w5, w6, hm, hy, gE hy]
              refine ⟨_, _, .inl (by simpa using e _), by simp, ?_⟩
              cases fb with
              | false =>
                simp at h5
                subst h5
                simp
              | true =>
                simp
                refine ⟨_, _, .inl (by simpa using e6 _), by simp, ?_⟩
                generalize usableN fl c = ub at h5
                cases ub with
                | true =>
                  simp at w3
                  simp [w3]
                  simp only [Bool.and_true, Bool.not_true, Bool.false_eq_true, if_false] at h5
                  exact ⟨i + 2, j, ⟨by omega, by omega, by rw [hp1]; exact h5⟩, by omega, by first | rfl | exact ⟨by simp, rfl⟩ | exact ⟨rfl, rfl⟩ | (simp; done) | (simp; omega)⟩
                | false =>
                  simp at h5
                  subst h5
                  simp
          · cases i with
            | zero =>
              simp only [prevI] at h5
              simp only [Bool.false_eq_true, if_false] at h5
              simp [b2, ht]
              simp at w3
              exact ⟨1, j, ⟨by omega, by omega, by rw [hp1]; exact h5⟩, by omega, by first | rfl | exact ⟨by simp, rfl⟩ | exact ⟨rfl, rfl⟩ | (simp; done) | (simp; omega)⟩
            | succ i =>
              have hy : ∃ y, p[i]? = some y := ⟨p[i]'(by omega), List.getElem?_eq_getElem (by omega)⟩
              obtain ⟨y, hy⟩ := hy
              simp only [prevI, hy] at h5
              have b3 : (0 : Int) < (i : Int) + 1 := by omega
              have b5 : i < m := by omega
              have w5 : IntKind.i64.wrap ((i : Int)) = i := wrap_in (by omega)
              have w6 : IntKind.i64.wrap ((i : Int) + 1 - 1) = i := by rw [wrap_in] <;> omega
              have e := hf y x
              have e6 := h6 (findL l y x).1
              generalize (findL l y x).1 = fl at e e6 h5
              generalize (findL l y x).2 = fb at e h5
              simp [b2, ht, b3, b5, w5, w6, hm, hy, gE hy]
              refine ⟨_, _, .inl (by simpa using e _), by simp, ?_⟩
              cases fb with
              | false =>
                simp at h5
                subst h5
                simp
              | true =>
                simp
                refine ⟨_, _, .inl (by simpa using e6 _), by simp, ?_⟩
                generalize usableN fl c = ub at h5
                cases ub with
                | true =>
                  simp at w3
                  simp [w3]
                  simp only [Bool.and_true, Bool.not_true, Bool.false_eq_true, if_false] at h5
                  exact ⟨i + 2, j, ⟨by omega, by omega, by rw [hp1]; exact h5⟩, by omega, by first | rfl | exact ⟨by simp, rfl⟩ | exact ⟨rfl, rfl⟩ | (simp; done) | (simp; omega)⟩
                | false =>
                  simp at h5
                  subst h5
                  simp
      · have : i = m := by omega
        subst this
        rw [List.drop_eq_nil_of_le (by omega)] at h5
        simp only [goR] at h5
        simp [hm, ht, h5]
        rw [Bool.eq_iff_iff]
        simp only [beq_iff_eq, decide_eq_true_eq]
        omega
  case inr =>
    simp [g3, g4, w1, hm]
    refine LoopK.intro (tr := []) mixed (by kernel_rfl) (fun q : Nat × Nat => [(1, .sl 13 (l.map encL) .sh), (2, .sl 1 (p.map encI) .sh), (7, .ptr 0 0), (9, .int .i64 q.2), (47, .sl 1 (p.map encI) .sh), (48, .int .i64 m), (49, .int .i64 q.1)]) (fun _ => [cellsC c])
      (fun q => q.1 ≤ m ∧ q.2 ≤ q.1 ∧ u = goR l c (prevI p q.1) q.2 (p.drop q.1)) (fun q => m - q.1) (0, 0) ?_ ?_ ?_
    · simp [prevI, hu]
    · simp [hm]
    · rintro ⟨i, j⟩ ⟨h1, h2, hgo⟩
      have hf := h5
      clear h5
      have h5 := hgo
      clear hgo
      simp only at h1 h2 h5
      by_cases hi : i < m
      · obtain ⟨x, hx, hd⟩ := get_drop (l := p) (i := i) (by omega)
        rw [hd] at h5
        simp only [goR] at h5
        have w3 : IntKind.i64.wrap ((i : Int) + 1) = i + 1 := wrap_in (by omega)
        have w4 : IntKind.i64.wrap ((j : Int) + 1) = j + 1 := wrap_in (by omega)
        have hp1 : prevI p (i + 1) = some x := hx
        clear hd
        have e3 := h3 x
        generalize hasB c.Avoid x = av at e3 h5
        simp [hi, hm, hx, gE hx]
        refine ⟨_, _, .inl (by simpa using e3 _), by simp, ?_⟩
        cases av with
        | true =>
          rw [if_pos rfl] at h5
          subst h5
          simp
        | false =>
        rw [if_neg (by simp)] at h5
        by_cases b1 : c.Thru[j]? = some x
        · rw [if_pos b1] at h5
          have b2 : j < t := by rw [← ht]; exact (List.getElem?_eq_some_iff.1 b1).1
          cases i with
          | zero =>
            simp only [prevI] at h5
            simp only [Bool.false_eq_true, if_false] at h5
            simp [b1, b2, gE b1, ht, w4]
            simp at w3
            exact ⟨1, j + 1, ⟨by omega, by omega, by rw [hp1]; exact h5⟩, by omega, by first | rfl | exact ⟨by simp, rfl⟩ | exact ⟨rfl, rfl⟩ | (simp; done) | (simp; omega)⟩
          | succ i =>
            have hy : ∃ y, p[i]? = some y := ⟨p[i]'(by omega), List.getElem?_eq_getElem (by omega)⟩
            obtain ⟨y, hy⟩ := hy
            simp only [prevI, hy] at h5
            have b3 : (0 : Int) < (i : Int) + 1 := by omega
            have b5 : i < m := by omega
            have w5 : IntKind.i64.wrap ((i : Int)) = i := wrap_in (by omega)
            have w6 : IntKind.i64.wrap ((i : Int) + 1 - 1) = i := by rw [wrap_in] <;> omega
            have e := hf y x
            have e6 := h6 (findL l y x).1
            generalize (findL l y x).1 = fl at e e6 h5
            generalize (findL l y x).2 = fb at e h5
            simp [b1, b2, gE b1, ht, w4, b3, b5, w5, w6, hm, hy, gE hy]
            refine ⟨_, _, .inl (by simpa using e _), by simp, ?_⟩
            cases fb with
            | false =>
              simp at h5
              subst h5
              simp
            | true =>
              simp
              refine ⟨_, _, .inl (by simpa using e6 _), by simp, ?_⟩
              generalize usableN fl c = ub at h5
              cases ub with
              | true =>
                simp at w3
                simp [w3]
                simp only [Bool.and_true, Bool.not_true, Bool.false_eq_true, if_false] at h5
                exact ⟨i + 2, j + 1, ⟨by omega, by omega, by rw [hp1]; exact h5⟩, by omega, by first | rfl | exact ⟨by simp, rfl⟩ | exact ⟨rfl, rfl⟩ | (simp; done) | (simp; omega)⟩
              | false =>
                simp at h5
                subst h5
                simp
        · rw [if_neg b1] at h5
          by_cases b2 : j < t
          · obtain ⟨z, hz, _⟩ := get_drop (l := c.Thru) (i := j) (by omega)
            have b4 : ¬ z = x := by rintro rfl; exact b1 hz
            cases i with
            | zero =>
              simp only [prevI] at h5
              simp only [Bool.false_eq_true, if_false] at h5
              simp [hz, b2, gE hz, ht, b4]
              simp at w3
              exact ⟨1, j, ⟨by omega, by omega, by rw [hp1]; exact h5⟩, by omega, by first | rfl | exact ⟨by simp, rfl⟩ | exact ⟨rfl, rfl⟩ | (simp; done) | (simp; omega)⟩
            | succ i =>
              have hy : ∃ y, p[i]? = some y := ⟨p[i]'(by omega), List.getElem?_eq_getElem (by omega)⟩
              obtain ⟨y, hy⟩ := hy
              simp only [prevI, hy] at h5
              have b3 : (0 : Int) < (i : Int) + 1 := by omega
              have b5 : i < m := by omega
              have w5 : IntKind.i64.wrap ((i : Int)) = i := wrap_in (by omega)
              have w6 : IntKind.i64.wrap ((i : Int) + 1 - 1) = i := by rw [wrap_in] <;> omega
              have e := hf y x
              have e6 := h6 (findL l y x).1
              generalize (findL l y x).1 = fl at e e6 h5
              generalize (findL l y x).2 = fb at e h5
              simp [hz, b2, gE hz, ht, b4, b3, b5, w5, w6, hm, hy, gE hy]
              refine ⟨_, _, .inl (by simpa using e _), by simp, ?_⟩
              cases fb with
              | false =>
                simp at h5
                subst h5
                simp
              | true =>
                simp
                refine ⟨_, _, .inl (by simpa using e6 _), by simp, ?_⟩
                generalize usableN fl c = ub at h5
                cases ub with
                | true =>
                  simp at w3
                  simp [w3]
                  simp only [Bool.and_true, Bool.not_true, Bool.false_eq_true, if_false] at h5
                  exact ⟨i + 2, j, ⟨by omega, by omega, by rw [hp1]; exact h5⟩, by omega, by first | rfl | exact ⟨by simp, rfl⟩ | exact ⟨rfl, rfl⟩ | (simp; done) | (simp; omega)⟩
                | false =>
                  simp at h5
                  subst h5
                  simp
          · cases i with
            | zero =>
              simp only [prevI] at h5
              simp only [Bool.false_eq_true, if_false] at h5
              simp [b2, ht]
              simp at w3
              exact ⟨1, j, ⟨by omega, by omega, by rw [hp1]; exact h5⟩, by omega, by first | rfl | exact ⟨by simp, rfl⟩ | exact ⟨rfl, rfl⟩ | (simp; done) | (simp; omega)⟩
            | succ i =>
              have hy : ∃ y, p[i]? = some y := ⟨p[i]'(by omega), List.getElem?_eq_getElem (by omega)⟩
              obtain ⟨y, hy⟩ := hy
              simp only [prevI, hy] at h5
              have b3 : (0 : Int) < (i : Int) + 1 := by omega
              have b5 : i < m := by omega
              have w5 : IntKind.i64.wrap ((i : Int)) = i := wrap_in (by omega)
              have w6 : IntKind.i64.wrap ((i : Int) + 1 - 1) = i := by rw [wrap_in] <;> omega
              have e := hf y x
              have e6 := h6 (findL l y x).1
              generalize (findL l y x).1 = fl at e e6 h5
              generalize (findL l y x).2 = fb at e h5
              simp [b2, ht, b3, b5, w5, w6, hm, hy, gE hy]
              refine ⟨_, _, .inl (by simpa using e _), by simp, ?_⟩
              cases fb with
              | false =>
                simp at h5
                subst h5
                simp
              | true =>
                simp
                refine ⟨_, _, .inl (by simpa using e6 _), by simp, ?_⟩
                generalize usableN fl c = ub at h5
                cases ub with
                | true =>
                  simp at w3
                  simp [w3]
                  simp only [Bool.and_true, Bool.not_true, Bool.false_eq_true, if_false] at h5
                  exact ⟨i + 2, j, ⟨by omega, by omega, by rw [hp1]; exact h5⟩, by omega, by first | rfl | exact ⟨by simp, rfl⟩ | exact ⟨rfl, rfl⟩ | (simp; done) | (simp; omega)⟩
                | false =>
                  simp at h5
                  subst h5
                  simp
      · have : i = m := by omega
        subst this
        rw [List.drop_eq_nil_of_le (by omega)] at h5
        simp only [goR] at h5
        simp [hm, ht, h5]
        rw [Bool.eq_iff_iff]
        simp only [beq_iff_eq, decide_eq_true_eq]
        omega
end Go.Proofs.Ytgcnlmcpmocbhaa

/- Route, by the program. -/
namespace Go.Proofs.Ytgcnlmcpmocbhaa
open Go Go.Am Go.Wk

theorem folN_len (ls : List Lnk) (th : List Int) (n : Nat) (gd : Nat → Nat → Int → Nat → Bool) : ∀ h x, (folN ls th n gd h x).length ≤ h
  | 0, _ => by simp [folN]
  | h + 1, x => by
    simp only [folN]
    split
    · simpa using folN_len ls th n gd h _
    · have := folN_len ls th n gd h x
      omega
theorem link_ok {n : Nat} {x : Lnk} (h : linkE n x = 0) : okLk n x ∧ x.From ≠ x.To := by
  unfold linkE at h
  by_cases g1 : x.From < 0 ∨ (n : Int) ≤ x.From ∨ x.To < 0 ∨ (n : Int) ≤ x.To
  · rw [if_pos g1] at h; cases h
  rw [if_neg g1] at h
  by_cases g2 : x.From = x.To
  · rw [if_pos g2] at h; cases h
  rw [if_neg g2] at h
  by_cases g3 : x.Cost < 1 ∨ 65535 < x.Cost ∨ x.Cap < 0 ∨ 1099511627776 < x.Cap
  · rw [if_pos g3] at h; cases h
  exact ⟨by unfold okLk; omega, g2⟩
theorem con_ok {n : Int} {c : Con} (h : conE n c = 0) : 0 ≤ c.Hops ∧ c.Avoid.length ≤ 64 ∧ c.Thru.length ≤ 64 ∧ 0 ≤ c.Setup ∧ c.Setup ≤ 7 ∧ 0 ≤ c.Band := by
  unfold conE at h
  by_cases g1 : c.Band < 0 ∨ 1099511627776 < c.Band ∨ c.Setup < 0 ∨ 7 < c.Setup ∨ c.Hold < 0 ∨ 7 < c.Hold ∨ c.Hops < 0
  · rw [if_pos g1] at h; cases h
  rw [if_neg g1] at h
  by_cases g2 : c.Setup < c.Hold
  · rw [if_pos g2] at h; cases h
  rw [if_neg g2] at h
  by_cases g3 : 64 < c.Avoid.length ∨ 64 < c.Thru.length
  · rw [if_pos g3] at h; cases h
  omega
theorem walkN_len {ls : List Lnk} {th : List Int} {n t from_ : Nat} {most : Int} (hn : n ≤ 128) (hth : th.length ≤ 64) (hf : from_ < n) (hls : ∀ x ∈ ls, okLk n x) {p : List Int × Int} (h : walkN ls th n t from_ most = some p) : p.1.length ≤ 10000 := by
  unfold walkN at h
  split at h
  · cases h
  · rename_i q hb
    have hd := bestO_spec (c := q.1) (h := q.2) hb
    have hE1 : ∀ a ∈ arcsN ls th n, 1 ≤ a.2.2 := fun a ha => (arcs_bound hls ha).2.2.1
    have hE2 : ∀ a ∈ arcsN ls th n, a.2.1 < n * (th.length + 1) := fun a ha => (arcs_bound hls ha).2.1
    have hsb : n * (th.length + 1) ≤ 128 * 65 := Nat.mul_le_mul hn (by omega)
    have hx0s : entN th n from_ 0 < n * (th.length + 1) := by
      unfold entN
      have := entK_len (th := th) (a := from_) (k := 0) (by omega)
      have e2 : (entK th from_ 0 + 1) * n ≤ (th.length + 1) * n := Nat.mul_le_mul_right n (by omega)
      rw [Nat.succ_mul] at e2
      rw [Nat.mul_comm n]
      omega
    have hh := hd.hops hE1 hE2 hx0s
    split at h
    · injection h with h
      subst h
      have := folN_len ls th n (fun x y co _ => gdB (blO ls th n t) x y co) q.2 (entN th n from_ 0)
      simp only [List.length_cons]
      omega
    · rename_i hmo
      simp only at h
      split at h
      · cases h
      · injection h with h
        subst h
        have hl := folN_len ls th n (fun x y co l => gdR (mnRows (arcsN ls th n) (th.length * n + t) (n * (th.length + 1)) (most.toNat + 1)) x y co l) (totR (fun h => rowAt (mnRows (arcsN ls th n) (th.length * n + t) (n * (th.length + 1)) (most.toNat + 1)) h (entN th n from_ 0)) (most.toNat + 1)).2.toNat (entN th n from_ 0)
        have hs := totR_shape (fun h => rowAt (mnRows (arcsN ls th n) (th.length * n + t) (n * (th.length + 1)) (most.toNat + 1)) h (entN th n from_ 0)) (most.toNat + 1)
        simp only [List.length_cons]
        rcases hs with hs | ⟨k, k1, _, k3⟩
        · rw [hs] at hl ⊢
          simp only at hl ⊢
          omega
        · rw [k3] at hl ⊢
          simp only at hl ⊢
          omega
noncomputable def routeN (n : Int) (l : List Lnk) (fr to : Int) (c : Con) : List Int × Int × Int :=
  if checkE n l c ≠ 0 then ([], 0, checkE n l c) else if (outN n fr || outN n to) = true then ([], 0, 5) else if hasB c.Avoid fr = true then ([], 0, 20)
  else match walkN (l.filter fun x => usableN x c) c.Thru n.toNat to.toNat fr.toNat c.Hops with
    | none => ([], 0, 20)
    | some p => if repB p.1 = true then ([], 0, 10) else (p.1, p.2, 0)
@[simp] def encRt (p : List Int × Int × Int) : AVal := .tup [.sl 1 (p.1.map encI) .sh, .int .i64 p.2.1, .int .i64 p.2.2]
theorem out_23 {n x : Int} : (decide (x < 0) || decide (n - 1 < x)) = outN n x := by
  unfold outN
  congr 1
  exact decide_eq_decide.2 (by omega)
set_option maxHeartbeats 8000000 in
set_option maxRecDepth 10000 in
theorem c15 (l : List Lnk) (m : Nat) (hm : l.length = m) (hm2 : m < 9223372036854775807) (c : Con) (p q : Nat) (hp : c.Avoid.length = p) (hq : c.Thru.length = q) (hp2 : p < 9223372036854775807) (hq2 : q < 9223372036854775807) (n fr to : Int) :
    CFun Try.prog 15 [.int .i64 n, .sl 13 (l.map encL) .sh, .int .i64 fr, .int .i64 to, encC c] [] (encRt (routeN n l fr to c)) [] := by
  refine CFun.intro (tr := [60, 2000060]) (fz := []) (n := 82) (rs := [.tmp 10, .tmp 11, .tmp 12]) Try.func15 rfl (by kernel_rfl) rfl rfl mixed (by kernel_rfl) (by simp) (by simp) ?_
  have h12 := fun H => (c12 l m hm hm2 c n p q hp hq hp2 hq2).up' H (by simp [noid, noid0]) rfl
  have h23 := fun a b c H => (c23 a b c).up' H rfl rfl
  have h24 := fun H => (c24 c.Avoid p hp hp2 fr).up' H rfl rfl
  unfold routeN
  by_cases g1 : checkE n l c = 0
  case neg =>
    rw [if_pos g1]
    have g1' : ¬ checkE n l c = 0 := g1
    generalize checkE n l c = e at *
    simp
    refine ⟨_, _, .inl (by simpa using h12 _), by simp, ?_⟩
    simp [g1']
  rw [if_neg (by simpa using g1)]
  rw [g1] at h12
  obtain ⟨n1, n2, l2, lk, cn⟩ := check_links g1
  obtain ⟨asc, _, lko⟩ := links_asc lk
  obtain ⟨c1, c2, c3, _⟩ := con_ok cn
  obtain ⟨N, hN⟩ : ∃ N : Nat, n = N := ⟨n.toNat, by omega⟩
  subst hN
  have w1 : IntKind.i64.wrap ((N : Int) - 1) = (N : Int) - 1 := wrap_in (by omega)
  have k1 := h23 fr 0 ((N : Int) - 1)
  have k2 := h23 to 0 ((N : Int) - 1)
  rw [out_23] at k1 k2
  simp
  refine ⟨_, _, .inl (by simpa using h12 _), by simp, ?_⟩
  by_cases o1 : outN N fr = true
  · rw [o1] at k1
    simp [o1, w1]
    refine ⟨_, _, .inl (by simpa using k1 _), by simp, ?_⟩
    simp
  have o1' : outN N fr = false := by simpa using o1
  rw [o1'] at k1
  by_cases o2 : outN N to = true
  · rw [o2] at k2
    simp [o1', o2, w1]
    refine ⟨_, _, .inl (by simpa using k1 _), by simp, ?_⟩
    simp [w1]
    refine ⟨_, _, .inl (by simpa using k2 _), by simp, ?_⟩
    simp
  have o2' : outN N to = false := by simpa using o2
  rw [o2'] at k2
  simp [o1', o2', w1]
  refine ⟨_, _, .inl (by simpa using k1 _), by simp, ?_⟩
  simp [w1]
  refine ⟨_, _, .inl (by simpa using k2 _), by simp, ?_⟩
  simp
  by_cases a1 : hasB c.Avoid fr = true
  · rw [a1] at h24
    simp [a1]
    refine ⟨_, _, .inl (by simpa using h24 _), by simp, ?_⟩
    simp
  have a1' : hasB c.Avoid fr = false := by simpa using a1
  rw [a1'] at h24
  simp [a1']
  refine ⟨_, _, .inl (by simpa using h24 _), by simp, ?_⟩
  simp [hm]
  clear h24 k1 k2 h12
  obtain ⟨F, hF⟩ : ∃ F : Nat → List Lnk, F = fun i => (l.take i).filter fun x => usableN x c := ⟨_, rfl⟩
  have F0 : F 0 = [] := by rw [hF]; rfl
  have FS : ∀ i x, l[i]? = some x → F (i + 1) = F i ++ (if usableN x c = true then [x] else []) := by
    intro i x hx
    rw [hF]
    show (l.take (i + 1)).filter _ = (l.take i).filter _ ++ _
    rw [List.take_add_one, hx, List.filter_append]
    congr 1
    by_cases hu : usableN x c = true
    · simp [hu]
    · simp [hu]
  have FL : ∀ i, (F i).length ≤ m := fun i => by
    rw [hF]
    have h1 := List.length_filter_le (fun x => usableN x c) (l.take i)
    have h2 := List.length_take_le i l
    simp only at h1 ⊢
    have h3 : (l.take i).length ≤ l.length := by simp; omega
    omega
  have FE : (l.filter fun x => usableN x c) = F m := by rw [hF, ← hm]; simp
  have FM : ∀ x ∈ F m, okLk N x := by
    intro x hx
    rw [← FE] at hx
    exact (link_ok (lko x (List.mem_filter.1 hx).1)).1
  rw [FE]
  clear hF FE
  have h9 := fun x H => (c9 x c p hp hp2).up' H (by simp [noid, noid0]) rfl
  refine LoopK.intro (tr := [60, 2000060]) mixed (by kernel_rfl)
    (fun i : Nat => [(2, .int .i64 fr), (9, .ptr 0 0), (14, .ptr 1 0), (47, .sl 13 (l.map encL) .sh), (48, .int .i64 m), (49, .int .i64 i)])
    (fun i => [cellsC c, [.sl 13 ((F i).map encL) .own, .sl 1 (c.Thru.map encI) .sh, .int .i64 N, .int .i64 to]]) (fun i => i ≤ m) (fun i => m - i) 0 ?_ ?_ ?_
  · simp
  · simp [hm, F0]
    done
  · intro i hi
    by_cases hi2 : i < m
    · obtain ⟨x, hx⟩ : ∃ x, l[i]? = some x := ⟨_, List.getElem?_eq_getElem (by omega)⟩
      have hu9 := h9 x
      have fs := FS i x hx
      have fl := FL i
      have w3 : IntKind.i64.wrap ((i : Int) + 1) = i + 1 := wrap_in (by omega)
      have s1 : (F i).length + 1 ≤ 140737488355328 := by omega
      have s2 : ((F i).length + 1) * 104 ≤ 140737488355328 := by omega
      simp [hi2, hm, hx, gE hx]
      refine ⟨_, _, .inl (by simpa using hu9 _), by simp, ?_⟩
      by_cases hu : usableN x c = true
      · rw [if_pos hu] at fs
        simp [hu, s1, s2, w3]
        exact ⟨i + 1, by omega, by omega, by simp [fs]⟩
      · rw [if_neg hu, List.append_nil] at fs
        have hu' : usableN x c = false := by simpa using hu
        simp [hu', w3]
        exact ⟨i + 1, by omega, by omega, by simp [fs]⟩
    · have : i = m := by omega
      subst this
      have hfr : fr = (fr.toNat : Int) ∧ fr.toNat < N := by
        simp only [outN, Bool.or_eq_false_iff, decide_eq_false_iff_not] at o1'
        omega
      have hto : to = (to.toNat : Int) ∧ to.toNat < N := by
        simp only [outN, Bool.or_eq_false_iff, decide_eq_false_iff_not] at o2'
        omega
      have h31 := c31 (F i) c.Thru N to.toNat (by omega) (by omega) hto.2 (by omega) FM (by have := FL i; omega) fr.toNat hfr.2 c.Hops c1
      rw [← hfr.1] at h31
      have hwl := fun p hp => walkN_len (ls := F i) (th := c.Thru) (n := N) (t := to.toNat) (from_ := fr.toNat) (most := c.Hops) (by omega) (by omega) hfr.2 FM (p := p) hp
      simp only [sC] at h31
      rw [← hto.1] at h31
      simp
      generalize walkN (F i) c.Thru N to.toNat fr.toNat c.Hops = W at *
      cases W with
      | none =>
        have : CFun Try.prog 31 [.ptr 1 0, .int .i64 fr, .int .i64 c.Hops] [cellsC c, [.sl 13 ((F i).map encL) .own, .sl 1 (c.Thru.map encI) .sh, .int .i64 N, .int .i64 to]] (.tup [.sl 1 [] .sh, .int .i64 0, .bool false]) [cellsC c, [.sl 13 ((F i).map encL) .own, .sl 1 (c.Thru.map encI) .sh, .int .i64 N, .int .i64 to]] := h31.at (H := [cellsC c, [.sl 13 ((F i).map encL) .own, .sl 1 (c.Thru.map encI) .sh, .int .i64 N, .int .i64 to]]) (id := 1) rfl rfl rfl rfl rfl
        refine ⟨_, _, .inl (by simpa using this), by simp, ?_⟩
        simp
      | some w =>
        obtain ⟨w, co⟩ := w
        have hw := hwl _ rfl
        simp only at hw
        have h32 := fun H => (c32 w w.length rfl (by omega)).up' H rfl rfl
        have : CFun Try.prog 31 [.ptr 1 0, .int .i64 fr, .int .i64 c.Hops] [cellsC c, [.sl 13 ((F i).map encL) .own, .sl 1 (c.Thru.map encI) .sh, .int .i64 N, .int .i64 to]] (.tup [.sl 1 (w.map encI) .sh, .int .i64 co, .bool true]) [cellsC c, [.sl 13 ((F i).map encL) .own, .sl 1 (c.Thru.map encI) .sh, .int .i64 N, .int .i64 to]] := h31.at (H := [cellsC c, [.sl 13 ((F i).map encL) .own, .sl 1 (c.Thru.map encI) .sh, .int .i64 N, .int .i64 to]]) (id := 1) rfl rfl rfl rfl rfl
        refine ⟨_, _, .inl (by simpa using this), by simp, ?_⟩
        simp
        refine ⟨_, _, .inl (by simpa using h32 _), by simp, ?_⟩
        by_cases hr : repB w = true
        · simp [hr]
        · simp [hr]
end Go.Proofs.Ytgcnlmcpmocbhaa

/- The reference's lists of numbers. -/
namespace Go.Proofs.Ytgcnlmcpmocbhaa
open Go Go.Am Go.Wk

def cmpI : List Int → List Int → Int
  | [], [] => 0
  | [], _ :: _ => -1
  | _ :: _, [] => 1
  | x :: a, y :: b => if y < x then 1 else if x < y then -1 else cmpI a b
theorem cmpI_step {a b : List Int} {i : Nat} {x y : Int} (hx : a[i]? = some x) (hy : b[i]? = some y) : cmpI (a.drop i) (b.drop i) = if y < x then 1 else if x < y then -1 else cmpI (a.drop (i + 1)) (b.drop (i + 1)) := by
  obtain ⟨h1, e1⟩ := List.getElem?_eq_some_iff.1 hx
  obtain ⟨h2, e2⟩ := List.getElem?_eq_some_iff.1 hy
  rw [List.drop_eq_getElem_cons h1, List.drop_eq_getElem_cons h2, e1, e2, cmpI]
theorem cmpI_long {a b : List Int} {i : Nat} (h1 : i < a.length) (h2 : i = b.length) : cmpI (a.drop i) (b.drop i) = 1 := by
  rw [List.drop_eq_getElem_cons h1, List.drop_eq_nil_of_le (show b.length ≤ i by omega)]
  rfl
theorem cmpI_end {a b : List Int} {i : Nat} (h1 : a.length ≤ i) : cmpI (a.drop i) (b.drop i) = if i < b.length then -1 else 0 := by
  rw [List.drop_eq_nil_of_le h1]
  split
  · rename_i h
    rw [List.drop_eq_getElem_cons h]
    rfl
  · rename_i h
    rw [List.drop_eq_nil_of_le (show b.length ≤ i by omega)]
    rfl
set_option maxHeartbeats 4000000 in
set_option maxRecDepth 10000 in
-- CompareInts
theorem c21 (a b : List Int) (n m : Nat) (hn : a.length = n) (hm : b.length = m) (hn2 : n < 9223372036854775807) (hm2 : m < 9223372036854775807) : CFun Try.prog 21 [.sl 1 (a.map encI) .sh, .sl 1 (b.map encI) .sh] [] (.int .i64 (cmpI a b)) [] := by
  refine CFun.intro (tr := []) (fz := []) (n := 38) (rs := [.tmp 4]) Try.func21 rfl (by kernel_rfl) rfl rfl mixed (by kernel_rfl) (by simp) (by simp) ?_
  obtain ⟨T, hT⟩ : ∃ T, T = cmpI a b := ⟨_, rfl⟩
  rw [← hT]
  simp
  refine LoopK.intro (tr := []) mixed (by kernel_rfl) (fun i : Nat => [(0, .sl 1 (a.map encI) .sh), (1, .sl 1 (b.map encI) .sh), (7, .sl 1 (a.map encI) .sh), (8, .int .i64 n), (9, .int .i64 i)]) (fun _ => []) (fun i => i ≤ n ∧ i ≤ m ∧ T = cmpI (a.drop i) (b.drop i)) (fun i => n - i) 0 ?_ ?_ ?_
  · simp [hT]
  · simp [hn]
  · rintro i ⟨h1, h2, h3⟩
    by_cases hi : i < n
    · obtain ⟨x, hx⟩ : ∃ x, a[i]? = some x := ⟨_, List.getElem?_eq_getElem (by omega)⟩
      have w1 : IntKind.i64.wrap ((i : Int) + 1) = i + 1 := wrap_in (by omega)
      by_cases hj : i = m
      · rw [cmpI_long (by omega) (by omega)] at h3
        subst hj
        simp [hi, hn, hm, hx, gE hx, h3]
      · obtain ⟨y, hy⟩ : ∃ y, b[i]? = some y := ⟨_, List.getElem?_eq_getElem (by omega)⟩
        rw [cmpI_step hx hy] at h3
        have hj' : ¬ (i : Int) = m := by omega
        have hj2 : i < m := by omega
        by_cases g1 : y < x
        · rw [if_pos g1] at h3
          simp [hi, hn, hm, hx, gE hx, hy, gE hy, hj, hj', hj2, g1, h3]
        · rw [if_neg g1] at h3
          by_cases g2 : x < y
          · rw [if_pos g2] at h3
            simp [hi, hn, hm, hx, gE hx, hy, gE hy, hj, hj', hj2, g1, g2, h3]
          · rw [if_neg g2] at h3
            simp [hi, hn, hm, hx, gE hx, hy, gE hy, hj, hj', hj2, g1, g2, w1]
            exact ⟨i + 1, ⟨by omega, by omega, h3⟩, by omega, by simp⟩
    · have : i = n := by omega
      subst this
      rw [cmpI_end (by omega)] at h3
      by_cases g : i < m
      · rw [if_pos (by omega)] at h3
        simp [hn, hm, g, h3]
      · rw [if_neg (by omega)] at h3
        simp [hn, hm, g, h3]
set_option maxHeartbeats 4000000 in
set_option maxRecDepth 10000 in
-- CopyInts
theorem c55 (a : List Int) (n : Nat) (hn : a.length = n) (hn2 : n < 1000000) (x : Int) : CFun Try.prog 55 [.sl 1 (a.map encI) .sh, .sl 1 [.int .i64 x] .full] [] (.sl 1 ((a ++ [x]).map encI) .sh) [] := by
  refine CFun.intro (tr := [9]) (fz := []) (n := 13) (rs := [.tmp 4]) Try.func55 rfl (by kernel_rfl) rfl rfl mixed (by kernel_rfl) (by simp) (by simp) ?_
  have b1 : n ≤ 140737488355328 := by omega
  have b2 : n * 8 ≤ 140737488355328 := by omega
  have b3 : n + 1 ≤ 140737488355328 := by omega
  have b4 : (n + 1) * 8 ≤ 140737488355328 := by omega
  by_cases h0 : a = []
  · subst h0
    simp
  simp [hn, b1, b2, b3, b4, h0]
  done
set_option maxHeartbeats 4000000 in
set_option maxRecDepth 10000 in
-- SameInts
theorem c17 (a b : List Int) (n m : Nat) (hn : a.length = n) (hm : b.length = m) (hn2 : n < 9223372036854775807) (hm2 : m < 9223372036854775807) : CFun Try.prog 17 [.sl 1 (a.map encI) .sh, .sl 1 (b.map encI) .sh] [] (.bool (decide (a = b))) [] := by
  refine CFun.intro (tr := []) (fz := []) (n := 26) (rs := [.tmp 4]) Try.func17 rfl (by kernel_rfl) rfl rfl mixed (by kernel_rfl) (by simp) (by simp) ?_
  by_cases hl : n = m
  case neg =>
    have hab : ¬ a = b := fun e => hl (by rw [← hn, ← hm, e])
    have hl' : ¬ (n : Int) = m := by omega
    simp [hn, hm, hl, hl', hab]
  subst hl
  obtain ⟨T, hT⟩ : ∃ T, T = decide (a = b) := ⟨_, rfl⟩
  rw [← hT]
  simp [hn, hm]
  refine LoopK.intro (tr := []) mixed (by kernel_rfl) (fun i : Nat => [(1, .sl 1 (b.map encI) .sh), (12, .sl 1 (a.map encI) .sh), (13, .int .i64 n), (14, .int .i64 i)]) (fun _ => []) (fun i => i ≤ n ∧ ∀ j, j < i → a[j]? = b[j]?) (fun i => n - i) 0 ?_ ?_ ?_
  · simp
  · simp
  · rintro i ⟨h1, h2⟩
    by_cases hi : i < n
    · obtain ⟨x, hx⟩ : ∃ x, a[i]? = some x := ⟨_, List.getElem?_eq_getElem (by omega)⟩
      obtain ⟨y, hy⟩ : ∃ y, b[i]? = some y := ⟨_, List.getElem?_eq_getElem (by omega)⟩
      have w1 : IntKind.i64.wrap ((i : Int) + 1) = i + 1 := wrap_in (by omega)
      by_cases g : x = y
      · subst g
        simp [hi, hn, hm, hx, gE hx, hy, gE hy, w1]
        refine ⟨i + 1, ⟨by omega, fun j hj => ?_⟩, by omega, by simp⟩
        by_cases e : j = i
        · subst e; rw [hx, hy]
        · exact h2 j (by omega)
      · have : T = false := by
          rw [hT]
          refine decide_eq_false fun e => g ?_
          subst e
          rw [hx] at hy
          injection hy
        simp [hi, hn, hm, hx, gE hx, hy, gE hy, g, this]
    · have : i = n := by omega
      subst this
      have : T = true := by
        rw [hT]
        refine decide_eq_true (List.ext_getElem? fun j => ?_)
        by_cases hj : j < i
        · exact h2 j hj
        · rw [List.getElem?_eq_none (by omega), List.getElem?_eq_none (by omega)]
      simp [this]
end Go.Proofs.Ytgcnlmcpmocbhaa
