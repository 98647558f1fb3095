import Derived.Test.YtclflkgafjgkfaaS7
set_option linter.unusedSimpArgs false
set_option linter.unusedVariables false
namespace Go.Proofs.Ytclflkgafjgkfaa
open Go Go.Am

set_option maxHeartbeats 1000000 in
set_option maxRecDepth 10000 in
theorem c55 (l : List Lnk) (hlen : l.length < 1099511627776) : CFun Try.prog 55 [.sl 4 (l.map encK) .sh] [] (.sl 4 (l.map encK) .sh) [] := by
  refine CFun.intro (tr := []) (fz := []) (n := 8) (rs := [.tmp 2]) Try.func55 rfl (by kernel_rfl) rfl rfl mixed (by kernel_rfl) (by simp) (by simp) ?_
  have s1 : l.length * 24 ≤ 140737488355328 := by omega
  have s2 : l.length ≤ 140737488355328 := by omega
  cases l with
  | nil => simp
  | cons x xs =>
    simp only [List.length_cons] at s1 s2
    simp [s1, s2]
set_option maxHeartbeats 1000000 in
set_option maxRecDepth 10000 in
theorem c56 (l : List Int) (hlen : l.length < 1099511627776) : CFun Try.prog 56 [.sl 1 (l.map enc32) .sh] [] (.sl 1 (l.map enc32) .sh) [] := by
  refine CFun.intro (tr := []) (fz := []) (n := 8) (rs := [.tmp 2]) Try.func56 rfl (by kernel_rfl) rfl rfl mixed (by kernel_rfl) (by simp) (by simp) ?_
  have s1 : l.length * 4 ≤ 140737488355328 := by omega
  have s2 : l.length ≤ 140737488355328 := by omega
  cases l with
  | nil => simp
  | cons x xs =>
    simp only [List.length_cons] at s1 s2
    simp [s1, s2]

set_option maxRecDepth 10000 in
theorem c78 (ts : List Int) (hts : ts.length < 1099511627776) (ty : Int) (rest : List AVal) (hr : LeCells 1 rest rest) : CFun Try.prog 78 [.sl 1 (ts.map encI) .sh, .ptr 0 0] [.int .i64 ty :: rest] (.bool (memL ts ty)) [.int .i64 ty :: rest] := by
  refine CFun.intro (tr := []) (fz := []) (n := 9) (rs := [.tmp 3]) Try.func78 rfl (by kernel_rfl) rfl rfl mixed (by kernel_rfl) (by simp) (by simp) ?_
  simp
  refine ⟨_, _, .inl ((c79 ts hts ty).up' _ rfl rfl), by simp, ?_⟩
  simpa using hr

def forB (l : Lsa) : Bool :=
  if memL [1] l.H.Ty = false ∧ (l.Border = true ∨ l.Boundary = true ∨ 0 < l.Links.length) then true else
  if memL [2] l.H.Ty = false ∧ 0 < l.Att.length then true else
  if memL [3, 4, 5] l.H.Ty = false ∧ l.Cost ≠ 0 then true else
  !memL [5] l.H.Ty && (l.Second || decide (l.Fwd ≠ 0) || decide (l.Tag ≠ 0))

set_option maxHeartbeats 2000000 in
set_option maxRecDepth 10000 in
theorem c41 (l : Lsa) : CFun Try.prog 41 [encA l] [] (.bool (forB l)) [] := by
  refine CFun.intro (tr := []) (fz := []) (n := 63) (rs := [.tmp 2]) Try.func41 rfl (by kernel_rfl) rfl rfl mixed (by kernel_rfl) (by simp) (by simp) ?_
  have h78 : ∀ (ts : List Int) (rest : List AVal), ts.length < 1099511627776 → LeCells 1 rest rest → CFun Try.prog 78 [.sl 1 (ts.map encI) .full, .ptr 0 0] [.int .i64 l.H.Ty :: rest] (.bool (memL ts l.H.Ty)) [.int .i64 l.H.Ty :: rest] :=
    fun ts rest hts hr => (c78 ts hts l.H.Ty rest hr).wk _ (by simp) ⟨whole, rfl, trivial⟩
  have h1 := fun rest => h78 [1] rest (by simp)
  have h2 := fun rest => h78 [2] rest (by simp)
  have h3 := fun rest => h78 [3, 4, 5] rest (by simp)
  have h5 := fun rest => h78 [5] rest (by simp)
  simp only [List.map_cons, List.map_nil, encI] at h1 h2 h3 h5
  rw [forB]
  generalize memL [1] l.H.Ty = m1 at h1 ⊢
  generalize memL [2] l.H.Ty = m2 at h2 ⊢
  generalize memL [3, 4, 5] l.H.Ty = m3 at h3 ⊢
  generalize memL [5] l.H.Ty = m5 at h5 ⊢
  have hL : (0 : Int) < l.Links.length ↔ 0 < l.Links.length := by omega
  have hT : (0 : Int) < l.Att.length ↔ 0 < l.Att.length := by omega
  simp
  refine ⟨_, _, .inl (h1 _ (by simp)), trivial, ?_⟩
  by_cases g1 : m1 = false ∧ (l.Border = true ∨ l.Boundary = true ∨ 0 < l.Links.length)
  · obtain ⟨rfl, g⟩ := g1
    by_cases b1 : l.Border = true
    · simp [b1]
    · by_cases b2 : l.Boundary = true
      · simp [b1, b2]
      · have b3 : 0 < l.Links.length := by rcases g with g | g | g <;> first | contradiction | exact g
        simp [b1, b2, hL, b3]
  have step : m1 = true ∨ (m1 = false ∧ l.Border = false ∧ l.Boundary = false ∧ ¬ 0 < l.Links.length) := by
    cases m1
    · right
      refine ⟨rfl, ?_, ?_, ?_⟩
      · cases h : l.Border <;> simp_all
      · cases h : l.Boundary <;> simp_all
      · intro h; exact g1 ⟨rfl, .inr (.inr h)⟩
    · exact .inl rfl
  rcases step with rfl | ⟨rfl, q1, q2, q3⟩
  all_goals first | simp [q1, q2, q3] | simp
  all_goals
    refine ⟨_, _, .inl (h2 _ (by simp)), trivial, ?_⟩
    by_cases g2 : m2 = false ∧ 0 < l.Att.length
    · simp [g2.1, g2.2]
    have s2 : m2 = true ∨ (m2 = false ∧ ¬ 0 < l.Att.length) := by
      cases m2
      · exact .inr ⟨rfl, fun h => g2 ⟨rfl, h⟩⟩
      · exact .inl rfl
    rcases s2 with rfl | ⟨rfl, r1⟩
    all_goals first | simp [r1] | simp
    all_goals
      refine ⟨_, _, .inl (h3 _ (by simp)), trivial, ?_⟩
      by_cases g3 : m3 = false ∧ l.Cost ≠ 0
      · simp [g3.1, g3.2]
      have s3 : m3 = true ∨ (m3 = false ∧ l.Cost = 0) := by
        cases m3
        · refine .inr ⟨rfl, ?_⟩
          by_cases h : l.Cost = 0
          · exact h
          · exact (g3 ⟨rfl, h⟩).elim
        · exact .inl rfl
      rcases s3 with rfl | ⟨rfl, r2⟩
      all_goals first | simp [r2] | simp
      all_goals
        refine ⟨_, _, .inl (h5 _ (by simp)), trivial, ?_⟩
        cases m5
        · cases e1 : l.Second
          · by_cases e2 : l.Fwd = 0
            · by_cases e3 : l.Tag = 0 <;> simp [e1, e2, e3]
            · simp [e1, e2]
          · simp [e1]
        · simp

theorem memL1 (a x : Int) : memL [a] x = decide (x = a) := by simp [memL]
def chkA (l : Lsa) : Int :=
  if chkH l.H ≠ 0 then chkH l.H else if forB l = true then 1 else
  if l.H.Ty = 1 then chkLinks l.Links l.H.Router else if l.H.Ty = 2 then chkAtt l.Att l.H.Router else
  if inR l.Cost 0 16777216 = false ∨ inR l.Tag 0 4294967295 = false then 5 else 0

theorem chkA_len {l : Lsa} (h : chkA l = 0) : l.Links.length ≤ 64 ∧ l.Att.length ≤ 64 := by
  unfold chkA at h
  split at h
  · contradiction
  · split at h
    · cases h
    · rename_i h2
      have hL : l.H.Ty ≠ 1 → l.Links.length = 0 := by
        intro hne
        by_cases e : 0 < l.Links.length
        · exact (h2 (by simp [forB, memL1, hne, e])).elim
        · omega
      have hA : l.H.Ty ≠ 2 → l.Att.length = 0 := by
        intro hne
        by_cases e : 0 < l.Att.length
        · refine (h2 ?_).elim
          unfold forB
          split
          · rfl
          · rw [if_pos ⟨by simp [memL1, hne], e⟩]
        · omega
      split at h
      · rename_i t1
        have := hA (by omega)
        unfold chkLinks at h
        split at h
        · cases h
        · omega
      · rename_i t1
        have := hL t1
        split at h
        · unfold chkAtt at h
          split at h
          · cases h
          · omega
        · rename_i t2
          have := hA t2
          omega

set_option maxHeartbeats 2000000 in
set_option maxRecDepth 10000 in
theorem c13 (l : Lsa) : CFun Try.prog 13 [encA l] [] (.int .i64 (chkA l)) [] := by
  refine CFun.intro (tr := []) (fz := []) (n := 41) (rs := [.tmp 2]) Try.func13 rfl (by kernel_rfl) rfl rfl mixed (by kernel_rfl) (by simp) (by simp) ?_
  have h40 := (c40 l.H).up' [cellsA l] rfl rfl
  have h41 := (c41 l).up' [cellsA l] rfl rfl
  have h42 : ∀ H, CFun Try.prog 42 [.sl 4 (l.Links.map encK) .sh, .int .u32 l.H.Router] H (.int .i64 (chkLinks l.Links l.H.Router)) H := fun H => (c42 l.Links _ rfl l.H.Router).up' H rfl rfl
  have h43 : ∀ H, CFun Try.prog 43 [.sl 1 (l.Att.map enc32) .sh, .int .u32 l.H.Router] H (.int .i64 (chkAtt l.Att l.H.Router)) H := fun H => (c43 l.Att _ rfl l.H.Router).up' H rfl rfl
  have h44 : ∀ n lo hi H, CFun Try.prog 44 [.int .i64 n, .int .i64 lo, .int .i64 hi] H (.bool (inR n lo hi)) H := fun n lo hi H => (c44 n lo hi).up' H rfl rfl
  rw [chkA]
  generalize chkLinks l.Links l.H.Router = v42 at h42 ⊢
  generalize chkAtt l.Att l.H.Router = v43 at h43 ⊢
  generalize forB l = v41 at h41 ⊢
  generalize chkH l.H = v40 at h40 ⊢
  simp
  refine ⟨_, _, .inl h40, trivial, ?_⟩
  by_cases e0 : v40 = 0
  · subst e0
    simp
    refine ⟨_, _, .inl h41, trivial, ?_⟩
    cases v41
    · by_cases t1 : l.H.Ty = 1
      · simp [t1]
        refine ⟨_, _, .inl (h42 _), trivial, ?_⟩
        simp
      · by_cases t2 : l.H.Ty = 2
        · simp [t2]
          refine ⟨_, _, .inl (h43 _), trivial, ?_⟩
          simp
        · simp [t1, t2]
          refine ⟨_, _, .inl (h44 _ _ _ _), trivial, ?_⟩
          cases e1 : inR l.Cost 0 16777216
          · simp
          · simp
            refine ⟨_, _, .inl (h44 _ _ _ _), trivial, ?_⟩
            cases e2 : inR l.Tag 0 4294967295 <;> simp
    · simp
  · simp [e0]
end Go.Proofs.Ytclflkgafjgkfaa
