import Derived.Test.YtlpgadlfpigbhaaL19
set_option linter.unusedSimpArgs false
set_option linter.unusedVariables false
namespace Go.Proofs.Ytlpgadlfpigbhaa
open Go Go.Am

/-- What is whole may be taken as shared. -/
theorem whole {k : Nat} {xs : List AVal} : LeS (.sl k xs .full) (.sl k xs .sh) := ⟨rfl, .inr ⟨.inl rfl, .inl rfl⟩⟩

def a1 : List LR := [⟨16, 17⟩, ⟨20, 20⟩]
def a2 : List LR := [⟨17, 17⟩, ⟨19, 20⟩]
def a3 : List LR := [⟨17, 17⟩]
def a4 : List Bnd := [⟨⟨0, 0⟩, 1, 16⟩, ⟨⟨0, 0⟩, 3, 17⟩]
def a5 : Bnd := ⟨⟨0, 0⟩, 2, 18⟩
def a6 : List LR := [⟨17, 17⟩, ⟨20, 20⟩]
def a7 : List LR := [⟨17, 20⟩]

theorem e12 : takeL a1 = (16, a6, 0) := by decide
theorem e9a : giveL a2 18 = (a7, 0) := by decide
theorem e9b : giveL a3 17 = ([], 7) := by decide
theorem e26 : bindL a4 a5 = [⟨⟨0, 0⟩, 1, 16⟩, a5, ⟨⟨0, 0⟩, 3, 17⟩] := by decide

set_option maxHeartbeats 1000000 in
set_option maxRecDepth 10000 in
theorem c8 : CFun Try.prog 8 [] [] (.bool true) [] := by
  refine CFun.intro (tr := []) (fz := []) (n := 74) (rs := [.tmp 0]) Try.func8 rfl (by kernel_rfl) rfl rfl mixed (by kernel_rfl) (by simp) (by simp) ?_
  have h12 := (c12 a1 (by decide)).wk [.sl 2 (a1.map encLR) .full] (by simp) ⟨whole, trivial⟩
  have h9a := (c9 a2 2 rfl (by decide) 18).wk [.sl 2 (a2.map encLR) .full, .int .i64 18] (by simp) ⟨whole, rfl, trivial⟩
  have h9b := (c9 a3 1 rfl (by decide) 17).wk [.sl 2 (a3.map encLR) .full, .int .i64 17] (by simp) ⟨whole, rfl, trivial⟩
  have h26 := (c26 a4 2 rfl (by decide) a5).wk [.sl 4 (a4.map encB) .full, encB a5] (by simp) ⟨whole, rfl, trivial⟩
  have h15a := (c15 a6 a6 2 rfl 2 rfl (by decide)).wk [.sl 2 (a6.map encLR) .sh, .sl 2 (a6.map encLR) .full] (by simp) ⟨⟨rfl, .inl ⟨rfl, rfl⟩⟩, whole, trivial⟩
  have h15b := (c15 a7 a7 1 rfl 1 rfl (by decide)).wk [.sl 2 (a7.map encLR) .sh, .sl 2 (a7.map encLR) .full] (by simp) ⟨⟨rfl, .inl ⟨rfl, rfl⟩⟩, whole, trivial⟩
  rw [e12] at h12
  rw [e9a] at h9a
  rw [e9b] at h9b
  rw [e26] at h26
  simp only [a1, a2, a3, a4, a5, a6, a7, List.map_cons, List.map_nil, decide_true] at h12 h9a h9b h26 h15a h15b
  simp
  refine ⟨_, _, .inl h12, trivial, ?_⟩
  simp
  refine ⟨_, _, .inl h9a, trivial, ?_⟩
  simp
  refine ⟨_, _, .inl h9b, trivial, ?_⟩
  simp
  refine ⟨_, _, .inl h26, trivial, ?_⟩
  simp
  refine ⟨_, _, .inl h15a, trivial, ?_⟩
  simp
  refine ⟨_, _, .inl h15b, trivial, ?_⟩
  simp
end Go.Proofs.Ytlpgadlfpigbhaa
