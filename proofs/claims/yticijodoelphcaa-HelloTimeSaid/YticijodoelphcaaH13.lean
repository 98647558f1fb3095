import Derived.Test.YticijodoelphcaaH8
set_option linter.unusedSimpArgs false
set_option linter.unusedVariables false
namespace Go.Proofs.Yticijodoelphcaa
open Go Go.Am

-- routingref24.Words, SameHeaders: a list with itself
set_option maxHeartbeats 1600000 in
set_option maxRecDepth 10000 in
theorem f63 (a : List Int) (n : Nat) (hn : a.length = n) (hlen : n < 140737488355328) : CFun Try.prog 63 [.sl 1 (a.map enc32) .sh, .sl 1 (a.map enc32) .sh] [] (.bool true) [] := by
  refine CFun.intro (tr := []) (fz := []) (n := 26) (rs := [.tmp 4]) Try.func63 rfl (by kernel_rfl) rfl rfl mixed (by kernel_rfl) (by simp) (by simp) ?_
  simp
  refine LoopK.intro (tr := []) mixed (by kernel_rfl) (fun i : Nat => [(0, .sl 1 (a.map enc32) .sh), (1, .sl 1 (a.map enc32) .sh), (5, .int .i64 i)]) (fun _ => []) (fun i => i ≤ n) (fun i => n - i) 0 ?_ ?_ ?_
  · simp
  · simp
  · rintro i h1
    by_cases hi : i < n
    · obtain ⟨x, hx, hd⟩ := get_drop (l := a) (i := i) (by omega)
      have w1 : IntKind.i64.wrap ((i : Int) + 1) = i + 1 := wrap_in (by omega)
      clear hd
      simp [hn, hi, hx, gE hx, w1]
      exact ⟨i + 1, by omega, by omega, by simp⟩
    · have : i = n := by omega
      subst this
      simp [hn]
set_option maxHeartbeats 1600000 in
set_option maxRecDepth 10000 in
theorem f42 (a : List Hdr) (n : Nat) (hn : a.length = n) (hlen : n < 140737488355328) : CFun Try.prog 42 [.sl 7 (a.map encH) .sh, .sl 7 (a.map encH) .sh] [] (.bool true) [] := by
  refine CFun.intro (tr := []) (fz := []) (n := 26) (rs := [.tmp 4]) Try.func42 rfl (by kernel_rfl) rfl rfl mixed (by kernel_rfl) (by simp) (by simp) ?_
  simp
  refine LoopK.intro (tr := []) mixed (by kernel_rfl) (fun i : Nat => [(0, .sl 7 (a.map encH) .sh), (1, .sl 7 (a.map encH) .sh), (5, .int .i64 i)]) (fun _ => []) (fun i => i ≤ n) (fun i => n - i) 0 ?_ ?_ ?_
  · simp
  · simp
  · rintro i h1
    by_cases hi : i < n
    · obtain ⟨x, hx, hd⟩ := get_drop (l := a) (i := i) (by omega)
      have w1 : IntKind.i64.wrap ((i : Int) + 1) = i + 1 := wrap_in (by omega)
      clear hd
      simp [hn, hi, hx, gE hx, w1]
      exact ⟨i + 1, by omega, by omega, by simp⟩
    · have : i = n := by omega
      subst this
      simp [hn]
-- routingref26.SameNeighbor
set_option maxHeartbeats 1600000 in
set_option maxRecDepth 10000 in
theorem f20 (n : Nbr) (ok : okN n) : CFun Try.prog 20 [encN n, encN n] [] (.bool true) [] := by
  refine CFun.intro (tr := []) (fz := []) (n := 106) (rs := [.tmp 4]) Try.func20 rfl (by kernel_rfl) rfl rfl mixed (by kernel_rfl) (by simp) (by simp) ?_
  obtain ⟨o1, o2, o3, o4⟩ := ok
  have h1 := fun H => (f42 n.Lst _ rfl (by omega)).up' H rfl rfl
  have h2 := fun H => (f42 n.Sent _ rfl (by omega)).up' H rfl rfl
  have h3 := fun H => (f42 n.Req _ rfl (by omega)).up' H rfl rfl
  have h4 := fun H => (f42 n.Una _ rfl (by omega)).up' H rfl rfl
  simp
  refine ⟨_, _, .inl (by simpa using h1 _), by simp, ?_⟩
  simp
  refine ⟨_, _, .inl (by simpa using h2 _), by simp, ?_⟩
  simp
  refine ⟨_, _, .inl (by simpa using h3 _), by simp, ?_⟩
  simp
  refine ⟨_, _, .inl (by simpa using h4 _), by simp, ?_⟩
  simp
set_option maxHeartbeats 1600000 in
set_option maxRecDepth 10000 in
theorem f34 (l : List Nbr) (n : Nat) (hn : l.length = n) (hlen : n < 1000000000000) (ok : ∀ x ∈ l, okN x) : CFun Try.prog 34 [.sl 15 (l.map encN) .sh, .sl 15 (l.map encN) .sh] [] (.bool true) [] := by
  refine CFun.intro (tr := []) (fz := []) (n := 27) (rs := [.tmp 4]) Try.func34 rfl (by kernel_rfl) rfl rfl mixed (by kernel_rfl) (by simp) (by simp) ?_
  simp
  refine LoopK.intro (tr := []) mixed (by kernel_rfl) (fun i : Nat => [(0, .sl 15 (l.map encN) .sh), (1, .sl 15 (l.map encN) .sh), (5, .int .i64 i)]) (fun _ => []) (fun i => i ≤ n) (fun i => n - i) 0 ?_ ?_ ?_
  · simp
  · simp
  · rintro i h1
    by_cases hi : i < n
    · obtain ⟨x, hx, hd⟩ := get_drop (l := l) (i := i) (by omega)
      have w1 : IntKind.i64.wrap ((i : Int) + 1) = i + 1 := wrap_in (by omega)
      have h20 := fun H => (f20 x (ok x (List.mem_of_getElem? hx))).up' H rfl rfl
      clear hd
      simp [hn, hi, hx, gE hx, w1]
      refine ⟨_, _, .inl (by simpa using h20 _), by simp, ?_⟩
      simp [hn, hi, hx, gE hx, w1]
      exact ⟨i + 1, by omega, by omega, by simp⟩
    · have : i = n := by omega
      subst this
      simp [hn]
set_option maxHeartbeats 1600000 in
set_option maxRecDepth 10000 in
theorem f14 (s : Ifs) (hlen : s.N.length < 1000000000000) (ok : ∀ x ∈ s.N, okN x) : CFun Try.prog 14 [encS s, encS s] [] (.bool true) [] := by
  refine CFun.intro (tr := []) (fz := []) (n := 52) (rs := [.tmp 4]) Try.func14 rfl (by kernel_rfl) rfl rfl mixed (by kernel_rfl) (by simp) (by simp) ?_
  have h1 := fun H => (f34 s.N _ rfl hlen ok).up' H rfl rfl
  simp
  refine ⟨_, _, .inl (by simpa using h1 _), by simp, ?_⟩
  simp
-- routingref24.SameHello, Same
set_option maxHeartbeats 1600000 in
set_option maxRecDepth 10000 in
theorem f48 (h : Hel) (hlen : h.Seen.length < 140737488355328) : CFun Try.prog 48 [encE h, encE h] [] (.bool true) [] := by
  refine CFun.intro (tr := []) (fz := []) (n := 52) (rs := [.tmp 4]) Try.func48 rfl (by kernel_rfl) rfl rfl mixed (by kernel_rfl) (by simp) (by simp) ?_
  have h1 := fun H => (f63 h.Seen _ rfl hlen).up' H rfl rfl
  simp
  refine ⟨_, _, .inl (by simpa using h1 _), by simp, ?_⟩
  simp
set_option maxHeartbeats 1600000 in
set_option maxRecDepth 10000 in
theorem f25 (p : Pkt) (hlen : p.E.Seen.length < 140737488355328) (h0 : p.Heads = []) (h1 : p.Keys = []) (h2 : p.Lsas = []) : CFun Try.prog 25 [encP p, encP p] [] (.bool true) [] := by
  refine CFun.intro (tr := []) (fz := []) (n := 130) (rs := [.tmp 4]) Try.func25 rfl (by kernel_rfl) rfl rfl mixed (by kernel_rfl) (by simp) (by simp) ?_
  have h48 := fun H => (f48 p.E hlen).up' H rfl rfl
  have h42 := fun H => (f42 p.Heads _ rfl (by rw [h0]; simp)).up' H rfl rfl
  rw [h0] at h42
  simp [h0, h1, h2]
  refine ⟨_, _, .inl (by simpa using h48 _), by simp, ?_⟩
  simp
  refine ⟨_, _, .inl (by simpa using h42 _), by simp, ?_⟩
  simp
  refine LoopK.intro (tr := []) mixed (by kernel_rfl) (fun _ : Nat => [(2, .ptr 0 0), (3, .ptr 1 0), (5, .int .i64 0)]) (fun _ => [cellsP p, cellsP p]) (fun _ => True) (fun _ => 0) 0 ?_ ?_ ?_
  · simp
  · simp [h0, h1, h2]
  · rintro i _
    simp [h1]
    refine LoopK.intro (tr := []) mixed (by kernel_rfl) (fun _ : Nat => [(2, .ptr 0 0), (3, .ptr 1 0), (6, .int .i64 0)]) (fun _ => [cellsP p, cellsP p]) (fun _ => True) (fun _ => 0) 0 ?_ ?_ ?_
    · simp
    · simp [h0, h1, h2]
    · rintro i _
      simp [h2]
-- routingref26.Good
def ascB : Option Nbr → List Nbr → Bool
  | _, [] => true
  | none, x :: xs => ascB (some x) xs
  | some y, x :: xs => decide (y.Router < x.Router) && ascB (some x) xs
theorem ascB_iff : ∀ (l : List Nbr) (o : Option Nbr), ascB o l = true ↔ ascN (o.toList ++ l) := by
  intro l
  induction l with
  | nil => intro o; cases o <;> simp [ascB, ascN]
  | cons x xs ih =>
    intro o
    cases o with
    | none => rw [ascB, ih]; rfl
    | some y =>
      rw [ascB, Bool.and_eq_true, ih]
      simp only [Option.toList_some, List.singleton_append, ascN, List.pairwise_cons, List.mem_cons, forall_eq_or_imp, decide_eq_true_eq]
      constructor
      · rintro ⟨a, b, c⟩
        exact ⟨⟨a, fun z hz => Int.lt_trans a (b z hz)⟩, b, c⟩
      · rintro ⟨⟨a, _⟩, b, c⟩
        exact ⟨a, b, c⟩
def goodB (s : Ifs) : Bool := decide (chkI s.C = 0) && ascB none s.N
theorem goodB_iff (s : Ifs) : goodB s = true ↔ goodI s := by
  simp only [goodB, goodI, Bool.and_eq_true, decide_eq_true_eq, ascB_iff]
  rfl
set_option maxHeartbeats 1600000 in
set_option maxRecDepth 10000 in
theorem f10 (s : Ifs) (n : Nat) (hn : s.N.length = n) (hlen : n < 1000000000000) (ok : okI s.C) : CFun Try.prog 10 [encS s] [] (.bool (goodB s)) [] := by
  refine CFun.intro (tr := []) (fz := []) (n := 29) (rs := [.tmp 2]) Try.func10 rfl (by kernel_rfl) rfl rfl mixed (by kernel_rfl) (by simp) (by simp) ?_
  have h22 := fun H => (f22 s.C ok).up' H rfl rfl
  simp
  refine ⟨_, _, .inl (by simpa using h22 _), by simp, ?_⟩
  by_cases e : chkI s.C = 0
  case neg => simp [goodB, e]
  have hg : goodB s = ascB none s.N := by simp [goodB, e]
  rw [hg]
  simp [e]
  refine LoopK.intro (tr := []) mixed (by kernel_rfl) (fun i : Nat => [(1, .ptr 0 0), (3, .int .i64 ((i : Int) + 1))]) (fun _ => [cellsS s]) (fun i => i ≤ n ∧ ascB none s.N = ascB s.N[i]? (s.N.drop (i + 1))) (fun i => n - i) 0 ?_ ?_ ?_
  · refine ⟨by omega, ?_⟩
    cases s.N <;> rfl
  · simp
  · rintro i ⟨h1, h2⟩
    by_cases hi : i + 1 < n
    · obtain ⟨y, hy, _⟩ := get_drop (l := s.N) (i := i) (by omega)
      obtain ⟨x, hx, hd⟩ := get_drop (l := s.N) (i := i + 1) (by omega)
      rw [hd, hy, ascB] at h2
      have w1 : IntKind.i64.wrap ((i : Int) + 1 + 1) = i + 1 + 1 := wrap_in (by omega)
      have w2 : IntKind.i64.wrap ((i : Int) + 1 - 1) = i := by rw [show (i : Int) + 1 - 1 = i by omega]; exact wrap_in (by omega)
      have w3 : IntKind.i64.wrap (i : Int) = i := wrap_in (by omega)
      have hi' : (i : Int) + 1 < n := by omega
      have hi2 : (0 : Int) ≤ (i : Int) + 1 := by omega
      have hi3 : i < n := by omega
      clear hd
      by_cases hb : y.Router < x.Router
      · have hb' : ¬ x.Router ≤ y.Router := by omega
        rw [decide_eq_true hb, Bool.true_and] at h2
        simp [hn, hi, hi', hi2, hi3, hx, hy, gE hx, gE hy, w1, w2, w3, hb']
        exact ⟨i + 1, ⟨by omega, by rw [hx]; exact h2⟩, by omega, by simp⟩
      · have hb' : x.Router ≤ y.Router := by omega
        rw [decide_eq_false hb, Bool.false_and] at h2
        simp [hn, hi, hi', hi2, hi3, hx, hy, gE hx, gE hy, w1, w2, w3, hb', h2]
    · have hi' : ¬ (i : Int) + 1 < n := by omega
      have h3 : s.N.drop (i + 1) = [] := List.drop_of_length_le (by omega)
      rw [h3] at h2
      have h4 : ascB s.N[i]? [] = true := by cases s.N[i]? <;> rfl
      rw [h4] at h2
      simp [hn, hi', h2]
end Go.Proofs.Yticijodoelphcaa
