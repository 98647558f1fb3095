import Derived.Test.YtlpgadlfpigbhaaL16
set_option linter.unusedSimpArgs false
set_option linter.unusedVariables false
namespace Go.Proofs.Ytlpgadlfpigbhaa
open Go Go.Am

theorem sz32 {k : Nat} (h : k ≤ 4398046511104) : k * 32 ≤ 140737488355328 := by omega
theorem sz1 {k : Nat} (h : k ≤ 4398046511104) : k ≤ 140737488355328 := by omega

/-- The reference's Bind, behind its Unbind. -/
def rbind (b : Bnd) : List Bnd → Bool → List Bnd
  | [], d => if d = true then [] else [b]
  | x :: xs, d => if d = false ∧ grB x b = true then b :: x :: rbind b xs true else x :: rbind b xs d

set_option maxHeartbeats 400000 in
set_option maxRecDepth 10000 in
theorem c27 (l : List Bnd) (n : Nat) (hn : (l.length : Int) = n) (hlen : n < 1099511627776) (b : Bnd) : CFun Try.prog 27 [.sl 4 (l.map encB) .sh, encB b] [] (.sl 4 ((rbind b (delL l b.P b.Peer) false).map encB) .sh) [] := by
  refine CFun.intro (tr := [33, 37, 44]) (fz := []) (n := 49) (rs := [.tmp 4]) Try.func27 rfl (by kernel_rfl) rfl rfl mixed (by kernel_rfl) (by simp) (by simp) ?_
  have h24 := (c24 l n hn hlen b.P b.Peer).up' [cellsB b] rfl rfl
  have hdl : (delL l b.P b.Peer).length ≤ n := by have := List.length_filter_le (fun x => !isB b.P b.Peer x) l; simp only [delL]; omega
  simp
  simp only [cellsB] at h24
  refine ⟨_, _, .inl (by simpa using h24), trivial, ?_⟩
  generalize delL l b.P b.Peer = q at hdl h24 ⊢
  clear h24 hn
  obtain ⟨m, hm⟩ : ∃ m, q.length = m := ⟨_, rfl⟩
  rw [hm] at hdl
  have hc : (q.length : Int) = m := by omega
  simp [hc]
  refine LoopK.intro (tr := [33, 37, 44]) mixed (by kernel_rfl) (fun i : Nat × List Bnd × Bool => [(3, .ptr 0 0), (7, .sl 4 (i.2.1.map encB) .own), (8, .bool i.2.2), (20, .sl 4 (q.map encB) .sh), (21, .int .i64 m), (22, .int .i64 i.1)]) (fun _ => [cellsB b])
    (fun i => i.1 ≤ m ∧ (i.2.1.length ≤ i.1 + 1 ∧ (i.2.2 = false → i.2.1.length ≤ i.1)) ∧ rbind b q false = i.2.1 ++ rbind b (q.drop i.1) i.2.2) (fun i => m - i.1) (0, [], false) ?_ ?_ ?_
  · simp
  · simp [cellsB]
  · rintro ⟨i, out, d⟩ ⟨h1, ⟨h2, h2f⟩, h3⟩
    simp only at h1 h2 h2f h3
    by_cases hi : i < m
    · have w1 : IntKind.i64.wrap ((i : Int) + 1) = i + 1 := wrap_in (by omega)
      have s0 : out.length + 1 + 1 ≤ 4398046511104 := by omega
      have s1 : (out.length + 1) * 32 ≤ 140737488355328 := sz32 (by omega)
      have s2 : out.length + 1 ≤ 140737488355328 := sz1 (by omega)
      have s3 : (out.length + 1 + 1) * 32 ≤ 140737488355328 := sz32 s0
      have s4 : out.length + 1 + 1 ≤ 140737488355328 := sz1 s0
      obtain ⟨x, hx, hd⟩ := get_drop (l := q) (i := i) (by omega)
      rw [hd] at h3
      simp only [rbind] at h3
      have h28 := (c28 x b).up' [cellsB b, cellsB x] rfl rfl
      simp only [cellsB] at h28
      clear hd hm hc
      cases d with
      | true =>
        simp at h3
        simp [hi, hx, cellsB, w1, s1, s2]
        exact ⟨i + 1, out ++ [x], ⟨by omega, by simp; omega, by simpa using h3⟩, by omega, by simp, by simp⟩
      | false =>
        have h2f := h2f rfl
        simp [hi, hx, cellsB]
        refine ⟨_, _, .inl (by simpa using h28), by simp, ?_⟩
        by_cases hg : grB x b = true
        · simp [hg] at h3
          simp [hg, w1, s1, s2, s3, s4]
          exact ⟨i + 1, out ++ [b, x], ⟨by omega, by simp; omega, by simpa using h3⟩, by omega, by simp, by simp⟩
        · simp [hg] at h3
          simp [hg, w1, s1, s2]
          exact ⟨i + 1, out ++ [x], ⟨by omega, ⟨by simp; omega, by simp; omega⟩, by simpa using h3⟩, by omega, by simp, by simp⟩
    · have e : q.drop i = [] := List.drop_of_length_le (by omega)
      rw [e] at h3
      have s1 : (out.length + 1) * 32 ≤ 140737488355328 := by omega
      have s2 : out.length + 1 ≤ 140737488355328 := by omega
      cases d with
      | true => simp [rbind] at h3; simp [hi, h3, cellsB]
      | false => simp [rbind] at h3; simp [hi, h3, cellsB, s1, s2]
end Go.Proofs.Ytlpgadlfpigbhaa
