import Derived.Test.YtlpgadlfpigbhaaL1
set_option linter.unusedSimpArgs false
set_option linter.unusedVariables false
namespace Go.Proofs.Ytlpgadlfpigbhaa
open Go Go.Am

/-- Where a label goes. -/
def posL (x : Int) : List LR → Nat → Nat
  | [], i => i
  | r :: rs, i => if r.To < x then posL x rs (i + 1) else i

def giveFrom (l : List LR) (x : Int) (i : Nat) : Nat × Int :=
  match i with
  | 0 => (0, x)
  | j + 1 => match l[j]? with
    | some q => if q.To = x - 1 then (j, q.From) else (j + 1, x)
    | none => (j + 1, x)
def giveTo (l : List LR) (x : Int) (i : Nat) : Nat × Int :=
  match l[i]? with
  | some q => if q.From = x + 1 then (i + 1, q.To) else (i, x)
  | none => (i, x)
def giveL (l : List LR) (x : Int) : List LR × Int :=
  if chk l ≠ 0 then ([], chk l) else
  if x < 16 ∨ 1048575 < x then ([], 5) else
  if has l x = true then ([], 7) else
  (l.take (giveFrom l x (posL x l 0)).1 ++ [⟨(giveFrom l x (posL x l 0)).2, (giveTo l x (posL x l 0)).2⟩] ++ l.drop (giveTo l x (posL x l 0)).1, 0)

set_option maxHeartbeats 2000000 in
set_option maxRecDepth 10000 in
theorem c9 (l : List LR) (n : Nat) (hn : l.length = n) (hlen : n < 1099511627776) (x : Int) : CFun Try.prog 9 [.sl 2 (l.map encLR) .sh, .int .i64 x] [] (.tup [.sl 2 ((giveL l x).1.map encLR) .sh, .int .i64 (giveL l x).2]) [] := by
  refine CFun.intro (tr := []) (fz := []) (n := 95) (rs := [.tmp 4, .tmp 5]) Try.func9 rfl (by kernel_rfl) rfl rfl mixed (by kernel_rfl) (by simp) (by simp) ?_
  simp
  refine ⟨_, _, .inl ((c11 l n hn (by omega)).up' _ rfl rfl), trivial, ?_⟩
  by_cases h : chk l = 0
  case neg => simp [h, giveL]
  by_cases c1 : x < 16
  · simp [h, c1, giveL]
  by_cases c2 : 1048575 < x
  · simp [h, c1, c2, giveL]
  simp [h, c1, c2]
  refine ⟨_, _, .inl ((c17 l (by omega) x).up' _ rfl rfl), trivial, ?_⟩
  by_cases c3 : has l x = true
  · simp [c3, giveL, h, c1, c2]
  simp [c3]
  refine LoopK.intro (tr := []) mixed (by kernel_rfl) (fun i : Nat => [(0, .sl 2 (l.map encLR) .sh), (1, .int .i64 x), (7, .int .i64 i)]) (fun _ => []) (fun i => i ≤ n ∧ posL x l 0 = posL x (l.drop i) i) (fun i => n - i) 0 ?_ ?_ ?_
  · simp
  · simp
  · rintro i ⟨h1, h2⟩
    have hc : (l.length : Int) = n := by omega
    by_cases hi : i < n
    · obtain ⟨r, hx, hd⟩ := get_drop (l := l) (i := i) (by omega)
      rw [hd] at h2
      simp only [posL] at h2
      have w1 : IntKind.i64.wrap ((i : Int) + 1) = i + 1 := wrap_in (by omega)
      by_cases c4 : r.To < x
      · rw [if_pos c4] at h2
        clear hn hd
        simp [hi, hc, hx, c4, w1]
        exact ⟨i + 1, ⟨by omega, h2⟩, by omega, by simp⟩
      · rw [if_neg c4] at h2
        have w2 : IntKind.i64.wrap (x - 1) = x - 1 := wrap_in (by omega)
        have w3 : IntKind.i64.wrap (x + 1) = x + 1 := wrap_in (by omega)
        have key : ∀ (fr to : Nat) (p q : Int), giveFrom l x i = (fr, p) → giveTo l x i = (to, q) → fr ≤ to → to ≤ n → CFun Try.prog 29 [.sl 2 (l.map encLR) .sh, .int .i64 fr, .int .i64 to, .sl 2 [.agg [.int .i64 p, .int .i64 q]] .full] [[.int .i64 p, .int .i64 q]] (.sl 2 ((giveL l x).1.map encLR) .own) [[.int .i64 p, .int .i64 q]] := by
          intro fr to p q hp hq hft hto
          have := (c29 l [⟨p, q⟩] n fr to hn (by simp; omega) hft hto).up' [[.int .i64 p, .int .i64 q]] rfl rfl
          simpa [giveL, h, c1, c2, c3, h2, hp, hq] using this
        have g2 : (giveL l x).2 = 0 := by simp [giveL, h, c1, c2, c3]
        cases i with
        | zero =>
          by_cases c5 : r.From = x + 1
          · have := key 0 1 x r.To (by simp [giveFrom]) (by simp [giveTo, hx, c5]) (by omega) (by omega)
            clear hn hd key
            simp [hi, hc, hx, c4, c5, w3]
            refine ⟨_, _, .inl this, trivial, ?_⟩
            simp [g2]
          · have := key 0 0 x x (by simp [giveFrom]) (by simp [giveTo, hx, c5]) (by omega) (by omega)
            clear hn hd key
            simp [hi, hc, hx, c4, c5, w3]
            refine ⟨_, _, .inl this, trivial, ?_⟩
            simp [g2]
        | succ j =>
          obtain ⟨p, hp⟩ : ∃ p, l[j]? = some p := ⟨l[j]'(by omega), List.getElem?_eq_getElem _⟩
          have z1 : (j : Int) + 1 < n := by omega
          have z2 : (0 : Int) ≤ (j : Int) + 1 := by omega
          have z3 : ((j : Int) + 1).toNat = j + 1 := by omega
          have z4 : (0 : Int) < (j : Int) + 1 := by omega
          have z5 : (j : Int) < n := by omega
          have w4 : IntKind.i64.wrap (j : Int) = j := wrap_in (by omega)
          have w5 : IntKind.i64.wrap ((j : Int) + 1 + 1) = j + 1 + 1 := wrap_in (by omega)
          by_cases c6 : p.To = x - 1
          · by_cases c5 : r.From = x + 1
            · have := key j (j + 2) p.From r.To (by simp [giveFrom, hp, c6]) (by simp [giveTo, hx, c5]) (by omega) (by omega)
              clear hn hd key
              simp [z1, z2, z3, z4, z5, hc, hx, hp, c4, c5, c6, w2, w3, w4, w5]
              refine ⟨_, _, .inl this, trivial, ?_⟩
              simp [g2]
            · have := key j (j + 1) p.From x (by simp [giveFrom, hp, c6]) (by simp [giveTo, hx, c5]) (by omega) (by omega)
              clear hn hd key
              simp [z1, z2, z3, z4, z5, hc, hx, hp, c4, c5, c6, w2, w3, w4, w5]
              refine ⟨_, _, .inl this, trivial, ?_⟩
              simp [g2]
          · by_cases c5 : r.From = x + 1
            · have := key (j + 1) (j + 2) x r.To (by simp [giveFrom, hp, c6]) (by simp [giveTo, hx, c5]) (by omega) (by omega)
              clear hn hd key
              simp [z1, z2, z3, z4, z5, hc, hx, hp, c4, c5, c6, w2, w3, w4, w5]
              refine ⟨_, _, .inl this, trivial, ?_⟩
              simp [g2]
            · have := key (j + 1) (j + 1) x x (by simp [giveFrom, hp, c6]) (by simp [giveTo, hx, c5]) (by omega) (by omega)
              clear hn hd key
              simp [z1, z2, z3, z4, z5, hc, hx, hp, c4, c5, c6, w2, w3, w4, w5]
              refine ⟨_, _, .inl this, trivial, ?_⟩
              simp [g2]
    · have hin : i = n := by omega
      have hnone : l[i]? = none := List.getElem?_eq_none (by omega)
      rw [List.drop_eq_nil_of_le (by omega)] at h2
      simp only [posL] at h2
      have w2 : IntKind.i64.wrap (x - 1) = x - 1 := wrap_in (by omega)
      have key : ∀ (fr to : Nat) (p q : Int), giveFrom l x i = (fr, p) → giveTo l x i = (to, q) → fr ≤ to → to ≤ n → CFun Try.prog 29 [.sl 2 (l.map encLR) .sh, .int .i64 fr, .int .i64 to, .sl 2 [.agg [.int .i64 p, .int .i64 q]] .full] [[.int .i64 p, .int .i64 q]] (.sl 2 ((giveL l x).1.map encLR) .own) [[.int .i64 p, .int .i64 q]] := by
        intro fr to p q hp hq hft hto
        have := (c29 l [⟨p, q⟩] n fr to hn (by simp; omega) hft hto).up' [[.int .i64 p, .int .i64 q]] rfl rfl
        simpa [giveL, h, c1, c2, c3, h2, hp, hq] using this
      have g2 : (giveL l x).2 = 0 := by simp [giveL, h, c1, c2, c3]
      cases i with
      | zero =>
        have := key 0 0 x x (by simp [giveFrom]) (by simp [giveTo, hnone]) (by omega) (by omega)
        subst hin
        clear hn key
        simp [hc]
        refine ⟨_, _, .inl this, trivial, ?_⟩
        simp [g2]
      | succ j =>
        obtain ⟨p, hp⟩ : ∃ p, l[j]? = some p := ⟨l[j]'(by omega), List.getElem?_eq_getElem _⟩
        have z1 : (j : Int) + 1 = n := by omega
        have z2 : (0 : Int) ≤ (j : Int) + 1 := by omega
        have z3 : ((j : Int) + 1).toNat = j + 1 := by omega
        have z4 : (0 : Int) < (j : Int) + 1 := by omega
        have z5 : (j : Int) < n := by omega
        have w4 : IntKind.i64.wrap (j : Int) = j := wrap_in (by omega)
        have hc' : (l.length : Int) = (j : Int) + 1 := by omega
        by_cases c6 : p.To = x - 1
        · have := key j (j + 1) p.From x (by simp [giveFrom, hp, c6]) (by simp [giveTo, hnone]) (by omega) (by omega)
          clear hn key
          simp [hc', z2, z3, z4, hp, c6, w2, w4]
          refine ⟨_, _, .inl this, trivial, ?_⟩
          simp [g2]
        · have := key (j + 1) (j + 1) x x (by simp [giveFrom, hp, c6]) (by simp [giveTo, hnone]) (by omega) (by omega)
          clear hn key
          simp [hc', z2, z3, z4, hp, c6, w2, w4]
          refine ⟨_, _, .inl this, trivial, ?_⟩
          simp [g2]
end Go.Proofs.Ytlpgadlfpigbhaa
