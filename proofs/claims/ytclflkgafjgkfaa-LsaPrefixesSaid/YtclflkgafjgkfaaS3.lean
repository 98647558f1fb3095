import Derived.Test.YtclflkgafjgkfaaS2
set_option linter.unusedSimpArgs false
set_option linter.unusedVariables false
namespace Go.Proofs.Ytclflkgafjgkfaa
open Go Go.Am

structure Lnk where
  Kind : Int
  ID : Int
  Data : Int
  Cost : Int
  deriving DecidableEq
@[simp] def cellsK (x : Lnk) : List AVal := [.int .i64 x.Kind, .int .u32 x.ID, .int .u32 x.Data, .int .i64 x.Cost]
@[simp] def encK (x : Lnk) : AVal := .agg (cellsK x)

def cmpI (a b : Int) : Int := if a < b then -1 else if b < a then 1 else 0
theorem c84 (a : Int) : CFun Try.prog 84 [.int .i64 a] [] (.bool false) [] := by
  refine CFun.intro (tr := []) (fz := []) (n := 6) (rs := [.tmp 2]) Try.func84 rfl (by kernel_rfl) rfl rfl mixed (by kernel_rfl) (by simp) (by simp) ?_
  simp
theorem c90 (a : Int) : CFun Try.prog 90 [.int .u32 a] [] (.bool false) [] := by
  refine CFun.intro (tr := []) (fz := []) (n := 6) (rs := [.tmp 2]) Try.func90 rfl (by kernel_rfl) rfl rfl mixed (by kernel_rfl) (by simp) (by simp) ?_
  simp
set_option maxRecDepth 10000 in
theorem c51 (a b : Int) : CFun Try.prog 51 [.int .i64 a, .int .i64 b] [] (.int .i64 (cmpI a b)) [] := by
  refine CFun.intro (tr := []) (fz := []) (n := 20) (rs := [.tmp 4]) Try.func51 rfl (by kernel_rfl) rfl rfl mixed (by kernel_rfl) (by simp) (by simp) ?_
  simp
  refine ⟨_, _, .inl (c84 a), trivial, ?_⟩
  simp
  refine ⟨_, _, .inl (c84 b), trivial, ?_⟩
  by_cases h : a < b
  · simp [h, cmpI]
  · by_cases h2 : b < a <;> simp [h, h2, cmpI]
set_option maxRecDepth 10000 in
theorem c62 (a b : Int) : CFun Try.prog 62 [.int .u32 a, .int .u32 b] [] (.int .i64 (cmpI a b)) [] := by
  refine CFun.intro (tr := []) (fz := []) (n := 20) (rs := [.tmp 4]) Try.func62 rfl (by kernel_rfl) rfl rfl mixed (by kernel_rfl) (by simp) (by simp) ?_
  simp
  refine ⟨_, _, .inl (c90 a), trivial, ?_⟩
  simp
  refine ⟨_, _, .inl (c90 b), trivial, ?_⟩
  by_cases h : a < b
  · simp [h, cmpI]
  · by_cases h2 : b < a <;> simp [h, h2, cmpI]

/-- The first that is not zero. -/
def orL : List Int → Int
  | [] => 0
  | x :: xs => if x = 0 then orL xs else x
set_option maxHeartbeats 1000000 in
set_option maxRecDepth 10000 in
theorem c50 (l : List Int) (n : Nat) (hn : (l.length : Int) = n) (hlen : n < 1099511627776) : CFun Try.prog 50 [.sl 1 (l.map encI) .sh] [] (.int .i64 (orL l)) [] := by
  refine CFun.intro (tr := []) (fz := []) (n := 18) (rs := [.tmp 2]) Try.func50 rfl (by kernel_rfl) rfl rfl mixed (by kernel_rfl) (by simp) (by simp) ?_
  simp [hn]
  refine LoopK.intro (tr := []) mixed (by kernel_rfl) (fun i : Nat => [(3, .int .i64 0), (6, .sl 1 (l.map encI) .sh), (7, .int .i64 n), (8, .int .i64 i)]) (fun _ => []) (fun i => i ≤ n ∧ orL l = orL (l.drop i)) (fun i => n - i) 0 ?_ ?_ ?_
  · simp
  · simp
  · rintro i ⟨h1, h2⟩
    by_cases hi : i < n
    · obtain ⟨y, hy, hd⟩ := get_drop (l := l) (i := i) (by omega)
      rw [hd] at h2
      have w1 : IntKind.i64.wrap ((i : Int) + 1) = i + 1 := wrap_in (by omega)
      clear hd hn
      by_cases hy0 : y = 0
      · simp [orL, hy0] at h2
        simp [hi, hy, hy0, w1]
        exact ⟨i + 1, ⟨by omega, h2⟩, by omega, by simp⟩
      · simp [orL, hy0] at h2
        simp [hi, hy, hy0, h2]
    · have e : l.drop i = [] := List.drop_of_length_le (by omega)
      rw [e] at h2
      simp [orL] at h2
      simp [hi, h2]

theorem whole {k : Nat} {xs : List AVal} : LeS (.sl k xs .full) (.sl k xs .sh) := ⟨rfl, .inr ⟨.inl rfl, .inl rfl⟩⟩

def ordK (a b : Lnk) : Int := orL [cmpI a.Kind b.Kind, cmpI a.ID b.ID, cmpI a.Data b.Data]
set_option maxHeartbeats 1000000 in
set_option maxRecDepth 10000 in
theorem c81 (a b : Lnk) : CFun Try.prog 81 [encK a, encK b] [] (.int .i64 (ordK a b)) [] := by
  refine CFun.intro (tr := []) (fz := []) (n := 22) (rs := [.tmp 4]) Try.func81 rfl (by kernel_rfl) rfl rfl mixed (by kernel_rfl) (by simp) (by simp) ?_
  have h50 := fun H => ((c50 [cmpI a.Kind b.Kind, cmpI a.ID b.ID, cmpI a.Data b.Data] 3 rfl (by omega)).wk [.sl 1 ([cmpI a.Kind b.Kind, cmpI a.ID b.ID, cmpI a.Data b.Data].map encI) .full] (by simp) ⟨whole, trivial⟩).up' H rfl rfl
  simp only [List.map_cons, List.map_nil, encI] at h50
  simp
  refine ⟨_, _, .inl ((c51 _ _).up' _ rfl rfl), by simp, ?_⟩
  simp
  refine ⟨_, _, .inl ((c62 _ _).up' _ rfl rfl), by simp, ?_⟩
  simp
  refine ⟨_, _, .inl ((c62 _ _).up' _ rfl rfl), by simp, ?_⟩
  simp
  refine ⟨_, _, .inl (h50 _), by simp, ?_⟩
  simp [ordK]

def stubLen (d : Int) : Int := IntKind.i64.wrap (if 33 < d then 33 else d)
def chkK (x : Lnk) (router : Int) : Int :=
  if inR x.Kind 1 3 = false then 15 else if inR x.Cost 1 65535 = false then 5 else
  if (x.Kind = 1 ∧ (x.ID = 0 ∨ x.ID = router)) ∨ (x.Kind = 3 ∧ validP x.ID (stubLen x.Data) = false) then 1 else 0

set_option maxHeartbeats 2000000 in
set_option maxRecDepth 10000 in
theorem c80 (x : Lnk) (router : Int) : CFun Try.prog 80 [encK x, .int .u32 router] [] (.int .i64 (chkK x router)) [] := by
  refine CFun.intro (tr := []) (fz := []) (n := 46) (rs := [.tmp 4]) Try.func80 rfl (by kernel_rfl) rfl rfl mixed (by kernel_rfl) (by simp) (by simp) ?_
  have h44 : ∀ n lo hi H, CFun Try.prog 44 [.int .i64 n, .int .i64 lo, .int .i64 hi] H (.bool (inR n lo hi)) H := fun n lo hi H => (c44 n lo hi).up' H rfl rfl
  have h77 : ∀ H, CFun Try.prog 77 [.agg [.int .u32 x.ID, .int .i64 (stubLen x.Data)]] H (.bool (validP x.ID (stubLen x.Data))) H := fun H => (c77 x.ID _).up' H rfl rfl
  simp
  refine ⟨_, _, .inl (h44 _ _ _ _), trivial, ?_⟩
  cases e1 : inR x.Kind 1 3
  · simp [chkK, e1]
  simp
  refine ⟨_, _, .inl (h44 _ _ _ _), trivial, ?_⟩
  cases e2 : inR x.Cost 1 65535
  · simp [chkK, e1, e2]
  have hk : chkK x router = if (x.Kind = 1 ∧ (x.ID = 0 ∨ x.ID = router)) ∨ (x.Kind = 3 ∧ validP x.ID (stubLen x.Data) = false) then 1 else 0 := by simp [chkK, e1, e2]
  by_cases t1 : x.Kind = 1
  · by_cases t2 : x.ID = 0
    · simp [hk, t1, t2]
    · by_cases t3 : x.ID = router
      · simp [hk, t1, t3]
      · simp [hk, t1, t2, t3]
  · by_cases t4 : x.Kind = 3
    · cases hv : validP x.ID (stubLen x.Data)
      all_goals
        simp only [hv, stubLen] at h77 hk
        simp [t4]
        refine ⟨_, _, .inl (h77 _), by simp, ?_⟩
        simp [hk, t4]
    · simp [hk, t1, t4]

def chkKs (router : Int) : Option Lnk → List Lnk → Int
  | _, [] => 0
  | p, x :: xs => if chkK x router ≠ 0 then chkK x router else match p with
    | some q => if 0 ≤ ordK q x then 16 else chkKs router (some x) xs
    | none => chkKs router (some x) xs
def chkLinks (l : List Lnk) (router : Int) : Int := if 64 < l.length then 4 else chkKs router none l
def prevK (l : List Lnk) : Nat → Option Lnk
  | 0 => none
  | i + 1 => l[i]?

set_option maxHeartbeats 2000000 in
set_option maxRecDepth 10000 in
theorem c42 (l : List Lnk) (n : Nat) (hn : l.length = n) (router : Int) : CFun Try.prog 42 [.sl 4 (l.map encK) .sh, .int .u32 router] [] (.int .i64 (chkLinks l router)) [] := by
  refine CFun.intro (tr := []) (fz := []) (n := 37) (rs := [.tmp 4]) Try.func42 rfl (by kernel_rfl) rfl rfl mixed (by kernel_rfl) (by simp) (by simp) ?_
  have hc : (l.length : Int) = n := by omega
  by_cases h64 : (64 : Int) < n
  · have : 64 < l.length := by omega
    simp [hc, h64, chkLinks, this]
  have hs : chkLinks l router = chkKs router none l := by rw [chkLinks, if_neg (by omega)]
  simp [hc, h64]
  refine LoopK.intro (tr := []) mixed (by kernel_rfl) (fun i : Nat => [(0, .sl 4 (l.map encK) .sh), (1, .int .u32 router), (11, .sl 4 (l.map encK) .sh), (12, .int .i64 n), (13, .int .i64 i)]) (fun _ => []) (fun i => i ≤ n ∧ chkLinks l router = chkKs router (prevK l i) (l.drop i)) (fun i => n - i) 0 ?_ ?_ ?_
  · simp [prevK, hs]
  · simp
  · rintro i ⟨h1, h2⟩
    by_cases hi : i < n
    · obtain ⟨x, hx, hd⟩ := get_drop (l := l) (i := i) (by omega)
      rw [hd] at h2
      have w1 : IntKind.i64.wrap ((i : Int) + 1) = i + 1 := wrap_in (by omega)
      have h80 := (c80 x router).up' [cellsK x] rfl rfl
      simp only [cellsK] at h80
      simp only [chkKs] at h2
      simp [hi, hx]
      refine ⟨_, _, .inl (by simpa using h80), trivial, ?_⟩
      by_cases hk : chkK x router = 0
      · rw [if_neg (by simp [hk])] at h2
        cases i with
        | zero =>
          simp only [prevK] at h2
          clear hn hd hc hs
          have w0 : IntKind.i64.wrap 1 = 1 := by decide
          simp [hk, w0]
          exact ⟨1, ⟨by omega, by simpa [prevK, hx] using h2⟩, by omega, by simp⟩
        | succ j =>
          obtain ⟨q, hq, _⟩ := get_drop (l := l) (i := j) (by omega)
          simp only [prevK, hq] at h2
          have w2 : IntKind.i64.wrap (j : Int) = j := wrap_in (by omega)
          have h0 : (0 : Int) < ((j + 1 : Nat) : Int) := by omega
          have hjn : j < n := by omega
          have h81 := (c81 q x).up' [cellsK x] rfl rfl
          simp only [cellsK] at h81
          clear hn hd hs
          simp only [Int.natCast_add, Int.natCast_one] at w1 h0
          simp [hk, w2, h0, hc, hq, hjn, hx]
          refine ⟨_, _, .inl (by simpa using h81), by simp, ?_⟩
          by_cases ho : 0 ≤ ordK q x
          · rw [if_pos ho] at h2
            simp [ho, h2]
          · rw [if_neg ho] at h2
            have w3 : IntKind.i64.wrap ((j : Int) + 2) = j + 2 := wrap_in (by omega)
            simp [ho, w1, w3]
            exact ⟨j + 1 + 1, ⟨by omega, by simpa [prevK, hx] using h2⟩, by omega, by simp⟩
      · rw [if_pos (by simpa using hk)] at h2
        simp [hk, h2]
    · have e : l.drop i = [] := List.drop_of_length_le (by omega)
      rw [e] at h2
      simp [chkKs] at h2
      simp [hi, h2]

def attL : Int → List Int → Bool
  | _, [] => true
  | last, r :: rs => if r ≤ last then false else attL r rs
def chkAtt (l : List Int) (router : Int) : Int := if 64 < l.length then 4 else if attL 0 l = false then 16 else if memL l router = false then 14 else 0
set_option maxHeartbeats 2000000 in
set_option maxRecDepth 10000 in
theorem c43 (l : List Int) (n : Nat) (hn : l.length = n) (router : Int) : CFun Try.prog 43 [.sl 1 (l.map enc32) .sh, .int .u32 router] [] (.int .i64 (chkAtt l router)) [] := by
  refine CFun.intro (tr := []) (fz := []) (n := 26) (rs := [.tmp 4]) Try.func43 rfl (by kernel_rfl) rfl rfl mixed (by kernel_rfl) (by simp) (by simp) ?_
  have hc : (l.length : Int) = n := by omega
  by_cases h64 : (64 : Int) < n
  · have : 64 < l.length := by omega
    simp [hc, h64, chkAtt, this]
  have hs : chkAtt l router = if attL 0 l = false then 16 else if memL l router = false then 14 else 0 := by rw [chkAtt, if_neg (by omega)]
  have h82 := c82 l (by omega) router
  simp [hc, h64]
  refine LoopK.intro (tr := []) mixed (by kernel_rfl) (fun i : Nat × Int => [(0, .sl 1 (l.map enc32) .sh), (1, .int .u32 router), (5, .int .u32 i.2), (11, .sl 1 (l.map enc32) .sh), (12, .int .i64 n), (13, .int .i64 i.1)]) (fun _ => []) (fun i => i.1 ≤ n ∧ attL 0 l = attL i.2 (l.drop i.1)) (fun i => n - i.1) (0, 0) ?_ ?_ ?_
  · simp
  · simp
  · rintro ⟨i, last⟩ ⟨h1, h2⟩
    simp only at h1 h2
    by_cases hi : i < n
    · obtain ⟨x, hx, hd⟩ := get_drop (l := l) (i := i) (by omega)
      rw [hd] at h2
      have w1 : IntKind.i64.wrap ((i : Int) + 1) = i + 1 := wrap_in (by omega)
      simp only [attL] at h2
      clear hn hd hc
      by_cases hle : x ≤ last
      · rw [if_pos hle] at h2
        simp [hi, hx, hle, hs, h2]
      · rw [if_neg hle] at h2
        simp [hi, hx, hle, w1]
        exact ⟨i + 1, x, ⟨by omega, h2⟩, by omega, rfl, by simp⟩
    · have e : l.drop i = [] := List.drop_of_length_le (by omega)
      rw [e] at h2
      simp [attL] at h2
      simp [hi]
      refine ⟨_, _, .inl (by simpa using h82), trivial, ?_⟩
      cases e2 : memL l router <;> simp [hs, h2, e2]
end Go.Proofs.Ytclflkgafjgkfaa
