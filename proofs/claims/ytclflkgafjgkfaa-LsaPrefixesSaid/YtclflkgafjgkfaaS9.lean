import Derived.Test.YtclflkgafjgkfaaS8
set_option linter.unusedSimpArgs false
set_option linter.unusedVariables false
namespace Go.Proofs.Ytclflkgafjgkfaa
open Go Go.Am

def ageGap (a b : Hdr) : Int := IntKind.u64.wrap (IntKind.u64.wrap (if a.Age < b.Age then b.Age else a.Age) - IntKind.u64.wrap (if b.Age < a.Age then b.Age else a.Age))
def cmpH (a b : Hdr) : Int :=
  if orL [cmpI a.Seq b.Seq, cmpI a.Sum b.Sum] ≠ 0 then orL [cmpI a.Seq b.Seq, cmpI a.Sum b.Sum] else
  if a.Age = 3600 ∧ b.Age ≠ 3600 then 1 else if b.Age = 3600 ∧ a.Age ≠ 3600 then -1 else
  if ageGap a b ≤ 900 then 0 else cmpI b.Age a.Age

set_option maxHeartbeats 2000000 in
set_option maxRecDepth 10000 in
theorem c16 (a b : Hdr) : CFun Try.prog 16 [encH a, encH b] [] (.int .i64 (cmpH a b)) [] := by
  refine CFun.intro (tr := []) (fz := []) (n := 64) (rs := [.tmp 4]) Try.func16 rfl (by kernel_rfl) rfl rfl mixed (by kernel_rfl) (by simp) (by simp) ?_
  have h50 := fun H => ((c50 [cmpI a.Seq b.Seq, cmpI a.Sum b.Sum] 2 rfl (by omega)).wk [.sl 1 ([cmpI a.Seq b.Seq, cmpI a.Sum b.Sum].map encI) .full] (by simp) ⟨whole, trivial⟩).up' H rfl rfl
  have h51 : ∀ x y H, CFun Try.prog 51 [.int .i64 x, .int .i64 y] H (.int .i64 (cmpI x y)) H := fun x y H => (c51 x y).up' H rfl rfl
  simp only [List.map_cons, List.map_nil, encI] at h50
  rw [cmpH]
  simp
  refine ⟨_, _, .inl (h51 _ _ _), by simp, ?_⟩
  simp
  refine ⟨_, _, .inl (h51 _ _ _), by simp, ?_⟩
  simp
  refine ⟨_, _, .inl (h50 _), by simp, ?_⟩
  generalize orL [cmpI a.Seq b.Seq, cmpI a.Sum b.Sum] = c
  by_cases e0 : c = 0
  · subst e0
    by_cases e1 : a.Age = 3600
    · by_cases e2 : b.Age = 3600
      · simp [e1, e2, ageGap, show IntKind.u64.wrap 0 = 0 from rfl]
      · simp [e1, e2]
    · by_cases e2 : b.Age = 3600
      · simp [e1, e2]
      · have e1' : (a.Age == 3600) = false := by simpa using e1
        have e2' : (b.Age == 3600) = false := by simpa using e2
        by_cases e3 : ageGap a b ≤ 900
        · simp only [ageGap] at e3
          simp [e1', e2', e1, e2, e3, ageGap]
        · simp only [ageGap] at e3
          simp [e1', e2', e3, -Int.not_le]
          refine ⟨_, _, .inl (h51 _ _ _), by simp, ?_⟩
          simp [e1, e2, e3, ageGap]
  · simp [e0]

def sealA (l : Lsa) : Lsa := { l with H := { l.H with Sum := sumA l } }
def sealL (l : Lsa) : Lsa × Int := if chkA l ≠ 0 then (⟨⟨0, 0, 0, 0, 0, 0, 0⟩, false, false, [], [], 0, false, 0, 0⟩, chkA l) else (sealA l, 0)

set_option maxHeartbeats 2000000 in
set_option maxRecDepth 10000 in
theorem c18 (l : Lsa) : CFun Try.prog 18 [encA l] [] (.tup [encA (sealL l).1, .int .i64 (sealL l).2]) [] := by
  refine CFun.intro (tr := []) (fz := []) (n := 24) (rs := [.cell 2 29, .tmp 3]) Try.func18 rfl (by kernel_rfl) rfl rfl mixed (by kernel_rfl) (by simp) (by simp) ?_
  have h13 := fun rest => (c13 l).up' (cellsA l :: rest) rfl rfl
  rw [sealL]
  by_cases e : chkA l = 0
  · obtain ⟨hl, ha⟩ := chkA_len e
    have h54 := fun rest => (c54 l hl ha).up' (cellsA l :: rest) rfl rfl
    have h55 : ∀ H, CFun Try.prog 55 [.sl 4 (l.Links.map encK) .sh] H (.sl 4 (l.Links.map encK) .sh) H := fun H => (c55 l.Links (by omega)).up' H rfl rfl
    have h56 : ∀ H, CFun Try.prog 56 [.sl 1 (l.Att.map enc32) .sh] H (.sl 1 (l.Att.map enc32) .sh) H := fun H => (c56 l.Att (by omega)).up' H rfl rfl
    rw [e] at h13
    simp
    refine ⟨_, _, .inl (h13 _), trivial, ?_⟩
    simp
    refine ⟨_, _, .inl (h54 _), trivial, ?_⟩
    simp
    refine ⟨_, _, .inl (h55 _), by simp, ?_⟩
    simp
    refine ⟨_, _, .inl (h56 _), by simp, ?_⟩
    simp [e, sealA]
  · simp
    refine ⟨_, _, .inl (h13 _), trivial, ?_⟩
    simp [e]

def encL (l : Lsa) : List Int × Int := if chkA l ≠ 0 then ([], chkA l) else if l.H.Sum ≠ sumA l then ([], 13) else (bytesA l, 0)
set_option maxHeartbeats 2000000 in
set_option maxRecDepth 10000 in
theorem c21 (l : Lsa) : CFun Try.prog 21 [encA l] [] (.tup [encBs (encL l).1, .int .i64 (encL l).2]) [] := by
  refine CFun.intro (tr := []) (fz := []) (n := 18) (rs := [.tmp 2, .tmp 3]) Try.func21 rfl (by kernel_rfl) rfl rfl mixed (by kernel_rfl) (by simp) (by simp) ?_
  have h13 := (c13 l).up' [cellsA l] rfl rfl
  rw [encL]
  by_cases e : chkA l = 0
  · obtain ⟨hl, ha⟩ := chkA_len e
    have h54 := (c54 l hl ha).up' [cellsA l] rfl rfl
    have h59 := (c59 l hl ha).up' [cellsA l] rfl rfl
    rw [e] at h13
    simp
    refine ⟨_, _, .inl h13, trivial, ?_⟩
    simp
    refine ⟨_, _, .inl h54, by simp, ?_⟩
    by_cases e2 : l.H.Sum = sumA l
    · have b2 : (l.H.Sum == sumA l) = true := by simpa using e2
      have b3 : (l.H.Sum != sumA l) = false := by simp [e2]
      simp [b2, b3]
      refine ⟨_, _, .inl h59, by simp, ?_⟩
      simp [e, e2]
    · simp [e, e2]
  · simp
    refine ⟨_, _, .inl h13, trivial, ?_⟩
    simp [e]
end Go.Proofs.Ytclflkgafjgkfaa
