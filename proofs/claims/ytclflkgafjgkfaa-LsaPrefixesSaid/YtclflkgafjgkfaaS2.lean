import Derived.Test.YtclflkgafjgkfaaS1
set_option linter.unusedSimpArgs false
set_option linter.unusedVariables false
namespace Go.Proofs.Ytclflkgafjgkfaa
open Go Go.Am

structure Hdr where
  Ty : Int
  ID : Int
  Len : Int
  Router : Int
  Seq : Int
  Age : Int
  Sum : Int
  deriving DecidableEq
@[simp] def cellsH (h : Hdr) : List AVal := [.int .i64 h.Ty, .int .u32 h.ID, .int .i64 h.Len, .int .u32 h.Router, .int .i64 h.Seq, .int .i64 h.Age, .int .i64 h.Sum]
@[simp] def encH (h : Hdr) : AVal := .agg (cellsH h)

def chkH (h : Hdr) : Int :=
  if inR h.Ty 1 5 = false then 15 else
  if h.Router = 0 ∨ inR h.Seq 1 2147483647 = false ∨ inR h.Age 0 3600 = false ∨ inR h.Sum 0 65535 = false ∨ inR h.Len 0 (if hasP h.Ty = true then 32 else 0) = false then 5 else
  if h.Ty = 1 ∧ h.ID ≠ h.Router then 14 else
  if (h.Ty = 3 ∨ h.Ty = 5) ∧ validP h.ID h.Len = false then 1 else
  if (h.Ty = 2 ∨ h.Ty = 4) ∧ h.ID = 0 then 1 else 0

set_option maxHeartbeats 4000000 in
set_option maxRecDepth 10000 in
theorem c40 (h : Hdr) : CFun Try.prog 40 [encH h] [] (.int .i64 (chkH h)) [] := by
  refine CFun.intro (tr := []) (fz := []) (n := 84) (rs := [.tmp 2]) Try.func40 rfl (by kernel_rfl) rfl rfl mixed (by kernel_rfl) (by simp) (by simp) ?_
  have h44 : ∀ n lo hi, CFun Try.prog 44 [.int .i64 n, .int .i64 lo, .int .i64 hi] [cellsH h] (.bool (inR n lo hi)) [cellsH h] := fun n lo hi => (c44 n lo hi).up' _ rfl rfl
  have h66 := (c66 h.Ty).up' [cellsH h] rfl rfl
  have h77 : ∀ H, CFun Try.prog 77 [.agg [.int .u32 h.ID, .int .i64 h.Len]] H (.bool (validP h.ID h.Len)) H := fun H => (c77 h.ID h.Len).up' H rfl rfl
  simp only [cellsH] at h44 h66
  simp
  refine ⟨_, _, .inl h66, trivial, ?_⟩
  cases e0 : hasP h.Ty
  all_goals
    simp
    refine ⟨_, _, .inl (h44 _ _ _), trivial, ?_⟩
    cases e1 : inR h.Ty 1 5
    · simp [chkH, e1]
    simp
    by_cases e2 : h.Router = 0
    · simp [chkH, e1, e2]
    simp [e2]
    refine ⟨_, _, .inl (h44 _ _ _), trivial, ?_⟩
    cases e3 : inR h.Seq 1 2147483647
    · simp [chkH, e1, e2, e3]
    simp
    refine ⟨_, _, .inl (h44 _ _ _), trivial, ?_⟩
    cases e4 : inR h.Age 0 3600
    · simp [chkH, e1, e2, e3, e4]
    simp
    refine ⟨_, _, .inl (h44 _ _ _), trivial, ?_⟩
    cases e5 : inR h.Sum 0 65535
    · simp [chkH, e1, e2, e3, e4, e5]
    simp
    refine ⟨_, _, .inl (h44 _ _ _), trivial, ?_⟩
    cases e6 : inR h.Len 0 _
    · simp [chkH, e0, e1, e2, e3, e4, e5, e6]
    simp
    have hk : chkH h = if h.Ty = 1 ∧ h.ID ≠ h.Router then 14 else if (h.Ty = 3 ∨ h.Ty = 5) ∧ validP h.ID h.Len = false then 1 else if (h.Ty = 2 ∨ h.Ty = 4) ∧ h.ID = 0 then 1 else 0 := by
      simp [chkH, e0, e1, e2, e3, e4, e5, e6]
    by_cases t1 : h.Ty = 1
    · by_cases e7 : h.ID = h.Router
      · simp [hk, t1, e7]
      · simp [hk, t1, e7]
    by_cases t3 : h.Ty = 3
    · simp [t3]
      refine ⟨_, _, .inl (h77 _), trivial, ?_⟩
      cases e8 : validP h.ID h.Len <;> simp [hk, t3, e8]
    by_cases t5 : h.Ty = 5
    · simp [t5]
      refine ⟨_, _, .inl (h77 _), trivial, ?_⟩
      cases e8 : validP h.ID h.Len <;> simp [hk, t5, e8]
    by_cases t2 : h.Ty = 2
    · by_cases e9 : h.ID = 0 <;> simp [hk, t2, e9]
    by_cases t4 : h.Ty = 4
    · by_cases e9 : h.ID = 0 <;> simp [hk, t4, e9]
    simp [hk, t1, t2, t3, t4, t5]
end Go.Proofs.Ytclflkgafjgkfaa
