import Derived.Test.YtclflkgafjgkfaaS9
set_option linter.unusedSimpArgs false
set_option linter.unusedVariables false
namespace Go.Proofs.Ytclflkgafjgkfaa
open Go Go.Am

def smp : Lsa := ⟨⟨3, 167772160, 8, 1, 4, 0, 0⟩, false, false, [], [], 7, false, 0, 0⟩
def smpS : Lsa := ⟨⟨3, 167772160, 8, 1, 4, 0, sumA smp⟩, false, false, [], [], 7, false, 0, 0⟩
def h1 : Hdr := ⟨1, 1, 0, 1, 4, 100, 0⟩
def h2 : Hdr := ⟨1, 1, 0, 1, 3, 100, 0⟩
def h3 : Hdr := ⟨1, 1, 0, 1, 4, 1100, 0⟩
def h4 : Hdr := ⟨1, 1, 0, 1, 4, 1000, 0⟩

set_option maxRecDepth 10000 in
theorem c49 : CFun Try.prog 49 [] [] (encA smp) [] := by
  refine CFun.intro (tr := []) (fz := []) (n := 3) (rs := [.cell 0 29]) Try.func49 rfl (by kernel_rfl) rfl rfl mixed (by kernel_rfl) (by simp) (by simp) ?_
  simp [smp]

theorem v1 : sealL smp = (smpS, 0) := by decide +kernel
theorem v2 : (encL smpS).2 = 0 ∧ (encL smpS).1.length = 24 := by decide +kernel
theorem v3 : cmpH h1 h2 = 1 ∧ cmpH h1 h3 = 1 ∧ cmpH h1 h4 = 0 := by decide +kernel

set_option maxHeartbeats 2000000 in
set_option maxRecDepth 10000 in
theorem c15 : CFun Try.prog 15 [] [] (.bool true) [] := by
  refine CFun.intro (tr := []) (fz := []) (n := 55) (rs := [.tmp 0]) Try.func15 rfl (by kernel_rfl) rfl rfl mixed (by kernel_rfl) (by simp) (by simp) ?_
  have h18 := c18 smp
  rw [v1] at h18
  have h21 := fun H => (c21 smpS).up' H rfl rfl
  have hlen : (((encL smpS).1.length : Nat) : Int) = 24 := by rw [v2.2]; rfl
  rw [v2.1] at h21
  have q1 := fun H => (c16 h1 h2).up' H rfl rfl
  have q2 := fun H => (c16 h1 h3).up' H rfl rfl
  have q3 := fun H => (c16 h1 h4).up' H rfl rfl
  rw [v3.1] at q1
  rw [v3.2.1] at q2
  rw [v3.2.2] at q3
  generalize hS : smpS = S at h18 h21 hlen
  simp
  refine ⟨_, _, .inl c49, trivial, ?_⟩
  simp
  refine ⟨_, _, .inl h18, trivial, ?_⟩
  simp
  refine ⟨_, _, .inl (h21 _), trivial, ?_⟩
  generalize (encL S).1 = bs at hlen
  simp [hlen]
  refine ⟨_, _, .inl (q1 _), trivial, ?_⟩
  simp
  refine ⟨_, _, .inl (q2 _), trivial, ?_⟩
  simp
  refine ⟨_, _, .inl (q3 _), trivial, ?_⟩
  simp
end Go.Proofs.Ytclflkgafjgkfaa
