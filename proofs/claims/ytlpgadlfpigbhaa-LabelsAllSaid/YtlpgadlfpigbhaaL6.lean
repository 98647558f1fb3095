import Derived.Test.YtlpgadlfpigbhaaL5
set_option linter.unusedSimpArgs false
set_option linter.unusedVariables false
namespace Go.Proofs.Ytlpgadlfpigbhaa
open Go Go.Am

structure Pfx where
  Addr : Int
  Len : Int
  deriving DecidableEq
structure Bnd where
  P : Pfx
  Peer : Int
  Label : Int
  deriving DecidableEq
@[simp] def cellsP (p : Pfx) : List AVal := [.int .u32 p.Addr, .int .i64 p.Len]
@[simp] def encP (p : Pfx) : AVal := .agg (cellsP p)
@[simp] def encB (b : Bnd) : AVal := .agg [.int .u32 b.P.Addr, .int .i64 b.P.Len, .int .u32 b.Peer, .int .i64 b.Label]

def cmpP (p q : Pfx) : Int := if p.Addr < q.Addr ∨ p.Addr = q.Addr ∧ p.Len < q.Len then -1 else if p = q then 0 else 1

set_option maxHeartbeats 2000000 in
set_option maxRecDepth 10000 in
theorem c44 (p q : Pfx) : CFun Try.prog 44 [encP p, encP q] [] (.int .i64 (cmpP p q)) [] := by
  refine CFun.intro (tr := []) (fz := []) (n := 29) (rs := [.tmp 4]) Try.func44 rfl (by kernel_rfl) rfl rfl mixed (by kernel_rfl) (by simp) (by simp) ?_
  have e : p = q ↔ p.Addr = q.Addr ∧ p.Len = q.Len := by cases p; cases q; simp
  by_cases a1 : p.Addr < q.Addr
  · simp [a1, cmpP]
  · by_cases a2 : p.Addr = q.Addr
    · by_cases a3 : p.Len < q.Len
      · simp [a1, a2, a3, cmpP]
      · by_cases a4 : p.Len = q.Len
        · simp [a2, a4, cmpP, e]
        · simp [a2, a3, a4, cmpP, e]
    · simp [a1, a2, cmpP, e]
set_option maxHeartbeats 2000000 in
set_option maxRecDepth 10000 in
theorem c41 (p q : Pfx) : CFun Try.prog 41 [encP p, encP q] [] (.int .i64 (cmpP p q)) [] := by
  refine CFun.intro (tr := []) (fz := []) (n := 25) (rs := [.tmp 4]) Try.func41 rfl (by kernel_rfl) rfl rfl mixed (by kernel_rfl) (by simp) (by simp) ?_
  have e : p = q ↔ p.Addr = q.Addr ∧ p.Len = q.Len := by cases p; cases q; simp
  by_cases a2 : p.Addr = q.Addr
  · by_cases a3 : p.Len < q.Len
    · simp [a2, a3, cmpP]
    · by_cases a4 : q.Len < p.Len
      · have a5 : ¬ p.Len = q.Len := by omega
        simp [a2, a3, a4, a5, cmpP, e]
      · have a5 : p.Len = q.Len := by omega
        simp [a2, a5, cmpP, e]
  · by_cases a1 : p.Addr < q.Addr
    · simp [a1, a2, cmpP]
    · simp [a1, a2, cmpP, e]

def grB (a b : Bnd) : Bool := decide (0 < cmpP a.P b.P) || (decide (cmpP a.P b.P = 0) && decide (b.Peer < a.Peer))

set_option maxHeartbeats 2000000 in
set_option maxRecDepth 10000 in
theorem c39 (a b : Bnd) : CFun Try.prog 39 [encB a, encB b] [] (.bool (grB a b)) [] := by
  refine CFun.intro (tr := []) (fz := []) (n := 24) (rs := [.tmp 4]) Try.func39 rfl (by kernel_rfl) rfl rfl mixed (by kernel_rfl) (by simp) (by simp) ?_
  simp
  refine ⟨_, _, .inl ((c44 a.P b.P).up' _ rfl rfl), trivial, ?_⟩
  by_cases h1 : 0 < cmpP a.P b.P
  · simp [h1, grB]
  · by_cases h2 : cmpP a.P b.P = 0
    · simp [h2, grB]
    · simp [h1, h2, grB]

set_option maxHeartbeats 2000000 in
set_option maxRecDepth 10000 in
theorem c28 (a b : Bnd) : CFun Try.prog 28 [encB a, encB b] [] (.bool (grB a b)) [] := by
  refine CFun.intro (tr := []) (fz := []) (n := 24) (rs := [.tmp 4]) Try.func28 rfl (by kernel_rfl) rfl rfl mixed (by kernel_rfl) (by simp) (by simp) ?_
  simp
  refine ⟨_, _, .inl ((c41 a.P b.P).up' _ rfl rfl), trivial, ?_⟩
  by_cases h1 : 0 < cmpP a.P b.P
  · simp [h1, grB]
  · by_cases h2 : cmpP a.P b.P = 0
    · simp [h2, grB]
    · simp [h1, h2, grB]

set_option maxHeartbeats 2000000 in
set_option maxRecDepth 10000 in
theorem c38 (x b : Bnd) : CFun Try.prog 38 [encB x, .ptr 0 0] [[.int .u32 b.P.Addr, .int .i64 b.P.Len, .int .u32 b.Peer, .int .i64 b.Label]] (.bool (grB x b)) [[.int .u32 b.P.Addr, .int .i64 b.P.Len, .int .u32 b.Peer, .int .i64 b.Label]] := by
  refine CFun.intro (tr := []) (fz := []) (n := 7) (rs := [.tmp 3]) Try.func38 rfl (by kernel_rfl) rfl rfl mixed (by kernel_rfl) (by simp) (by simp) ?_
  simp
  refine ⟨_, _, .inl ((c39 x b).up' _ rfl rfl), trivial, ?_⟩
  simp

end Go.Proofs.Ytlpgadlfpigbhaa
