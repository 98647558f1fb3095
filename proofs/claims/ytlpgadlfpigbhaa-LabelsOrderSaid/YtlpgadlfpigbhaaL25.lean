import Derived.Test.YtlpgadlfpigbhaaL24
set_option linter.unusedSimpArgs false
set_option linter.unusedVariables false
namespace Go.Proofs.Ytlpgadlfpigbhaa
open Go Go.Am

@[simp] def encI (x : Int) : AVal := .int .i64 x
@[simp] def encU (x : Int) : AVal := .int .u8 x

set_option maxHeartbeats 1000000 in
set_option maxRecDepth 10000 in
theorem c30 (l : List Int) (n : Nat) (hn : l.length = n) (hlen : n < 1099511627776) (x : Int) : CFun Try.prog 30 [.sl 1 (l.map encI) .sh, .int .i64 x] [] (.int .i64 (idxL (fun y => decide (y = x)) l 0)) [] := by
  refine CFun.intro (tr := []) (fz := []) (n := 19) (rs := [.tmp 4]) Try.func30 rfl (by kernel_rfl) rfl rfl mixed (by kernel_rfl) (by simp) (by simp) ?_
  have hc : (l.length : Int) = n := by omega
  simp [hc]
  refine LoopK.intro (tr := []) mixed (by kernel_rfl) (fun i : Nat => [(1, .int .i64 x), (7, .sl 1 (l.map encI) .sh), (8, .int .i64 n), (9, .int .i64 i)]) (fun _ => []) (fun i => i ≤ n ∧ idxL (fun y => decide (y = x)) l 0 = idxL (fun y => decide (y = x)) (l.drop i) i) (fun i => n - i) 0 ?_ ?_ ?_
  · simp
  · simp
  · rintro i ⟨h1, h2⟩
    by_cases hi : i < n
    · obtain ⟨y, hy, hd⟩ := get_drop (l := l) (i := i) (by omega)
      rw [hd] at h2
      have w1 : IntKind.i64.wrap ((i : Int) + 1) = i + 1 := wrap_in (by omega)
      clear hd hn hc
      by_cases hxy : y = x
      · simp [idxL, hxy] at h2
        simp [hi, hy, hxy, h2]
      · simp [idxL, hxy] at h2
        simp [hi, hy, hxy, w1]
        exact ⟨i + 1, ⟨by omega, h2⟩, by omega, by simp⟩
    · have e : l.drop i = [] := List.drop_of_length_le (by omega)
      rw [e] at h2
      simp [idxL] at h2
      simp [hi, h2]

theorem c10 (l : List Int) (n : Nat) (hn : l.length = n) (hlen : n < 1099511627776) (x : Int) : CFun Try.prog 10 [.sl 1 (l.map encI) .sh, .int .i64 x] [] (.bool (decide (x ∈ l))) [] := by
  refine CFun.intro (tr := []) (fz := []) (n := 9) (rs := [.tmp 4]) Try.func10 rfl (by kernel_rfl) rfl rfl mixed (by kernel_rfl) (by simp) (by simp) ?_
  simp
  refine ⟨_, _, .inl (c30 l n hn hlen x), trivial, ?_⟩
  rcases idxL_find (fun y => decide (y = x)) l 0 with ⟨e1, _, e3⟩ | ⟨i, y, e1, e2, e3, _⟩
  · have : x ∉ l := fun h => by simpa using e3 x h
    simp [e1, this]
  · have hy : y = x := by have := List.find?_some e3; simpa using this
    have : x ∈ l := hy ▸ List.mem_of_getElem? e2
    have h0 : (0 : Int) ≤ i := by omega
    rw [Nat.zero_add] at e1
    simp [e1, this, h0]

theorem mem_empty {l : List LR} (h : okL l) (hm : ∀ m, ¬ mem l m) : l = [] := by
  cases l with
  | nil => rfl
  | cons r rs =>
    obtain ⟨h1, _⟩ := okL_cons.1 h
    exact (hm r.From ⟨r, by simp, Int.le_refl _, h1.2.1⟩).elim

theorem first_le {r : LR} {rs : List LR} (h : okL (r :: rs)) {m : Int} (hm : mem (r :: rs) m) : r.From ≤ m := by
  obtain ⟨h1, h2, h3⟩ := okL_cons.1 h
  rcases mem_cons.1 hm with hm | ⟨s, hs, hm⟩
  · exact hm.1
  · have := h2 s hs
    omega

set_option maxHeartbeats 2000000 in
set_option maxRecDepth 10000 in
theorem c3 (l : List Int) (n : Nat) (hn : l.length = n) (hb : ∀ x ∈ l, 0 ≤ x ∧ x ≤ 255) : CFun Try.prog 3 [.sl 1 (l.map encU) .sh] [] (.bool true) [] := by
  refine CFun.intro (tr := [48]) (fz := []) (n := 92) (rs := [.tmp 2]) Try.func3 rfl (by kernel_rfl) rfl rfl mixed (by kernel_rfl) (by simp) (by simp) ?_
  have hc : (l.length : Int) = n := by omega
  by_cases h2 : (100 : Int) < n
  · simp [hc, h2]
    refine ⟨_, _, .inl c8, trivial, ?_⟩
    simp
  simp [hc, h2]
  refine LoopK.intro (tr := [48]) mixed (by kernel_rfl) (fun q : Nat × List LR × List Int => [(3, .sl 2 (q.2.1.map encLR) .sh), (4, .sl 1 (q.2.2.map encI) .own), (21, .sl 1 (l.map encU) .sh), (22, .int .i64 n), (23, .int .i64 q.1)]) (fun _ => [])
    (fun q => q.1 ≤ n ∧ okL q.2.1 ∧ (∀ m, mem q.2.1 m ↔ m ∈ q.2.2) ∧ (∀ m ∈ q.2.2, 16 ≤ m ∧ m ≤ 271) ∧ q.2.2.length ≤ q.1 ∧ q.2.1.length ≤ q.1) (fun q => n - q.1) (0, [], []) ?_ ?_ ?_
  · exact ⟨by simp, okL_nil, by simp [mem], by simp, by simp, by simp⟩
  · simp
  · rintro ⟨i, free, given⟩ ⟨h1, h3, h4, h5, h6, h7⟩
    simp only at h1 h3 h4 h5 h6 h7
    by_cases hi : i < n
    · obtain ⟨x, hx, _⟩ := get_drop (l := l) (i := i) (by omega)
      have hxb := hb x (List.mem_of_getElem? hx)
      have w1 : IntKind.i64.wrap ((i : Int) + 1) = i + 1 := wrap_in (by omega)
      have w2 : IntKind.i64.wrap x = x := wrap_in (by omega)
      have w3 : IntKind.i64.wrap (16 + x) = 16 + x := wrap_in (by omega)
      have s1 : (given.length + 1) * 8 ≤ 140737488355328 := by omega
      have s2 : given.length + 1 ≤ 140737488355328 := by omega
      have h9 := c9 free _ rfl (by omega) (16 + x)
      have h10 := c10 given _ rfl (by omega) (16 + x)
      clear hb hn hc
      by_cases hin : 16 + x ∈ given
      · rw [give_old h3 (by omega) ((h4 _).2 hin)] at h9
        simp [hi, hx, w2, w3]
        refine ⟨_, _, .inl h9, trivial, ?_⟩
        simp
        refine ⟨_, _, .inl h10, trivial, ?_⟩
        simp [hin, w1]
        exact ⟨i + 1, free, given, ⟨by omega, h3, h4, h5, by omega, by omega⟩, by omega, rfl, by simp⟩
      · have hnm : ¬ mem free (16 + x) := fun h => hin ((h4 _).1 h)
        rw [give_new h3 (by omega) hnm] at h9
        obtain ⟨⟨g1, g2⟩, _⟩ := gR_ok (16 + x) (by omega) free h3 hnm
        have gl := gR_len (16 + x) free
        have h11 := c11 (gR (16 + x) free) _ rfl (by omega)
        rw [(chk_iff _).2 g1] at h11
        simp [hi, hx, w2, w3]
        refine ⟨_, _, .inl h9, trivial, ?_⟩
        simp
        refine ⟨_, _, .inl h10, trivial, ?_⟩
        simp [hin]
        refine ⟨_, _, .inl h11, trivial, ?_⟩
        simp [s1, s2, w1]
        refine ⟨i + 1, gR (16 + x) free, given ++ [16 + x], ⟨by omega, g1, fun m => ?_, fun m hm => ?_, by simp; omega, by omega⟩, by omega, rfl, by simp, by simp⟩
        · rw [g2, h4]; simp
        · rcases List.mem_append.1 hm with hm | hm
          · exact h5 m hm
          · simp at hm; omega
    · have hn100 : n ≤ 100 := by omega
      clear hb hn hc
      simp [hi]
      refine LoopK.intro (tr := [48]) mixed (by kernel_rfl) (fun q : Nat × List LR => [(3, .sl 2 (q.2.map encLR) .sh), (4, .sl 1 (given.map encI) .sh), (10, .int .i64 q.1)]) (fun _ => [])
        (fun q => q.1 ≤ 400 ∧ okL q.2 ∧ (∀ m, mem q.2 m ↔ m ∈ given ∧ (q.1 : Int) ≤ m) ∧ q.2.length ≤ i) (fun q => 400 - q.1) (0, free) ?_ ?_ ?_
      · refine ⟨by simp, h3, fun m => ?_, h7⟩
        rw [h4]
        constructor
        · intro h; exact ⟨h, by have := h5 m h; simp only; omega⟩
        · exact fun h => h.1
      · simp
      · rintro ⟨k, free2⟩ ⟨k1, k2, k3, k4⟩
        simp only at k1 k2 k3 k4
        clear h3 h4 h7 free
        by_cases hk : k < 400
        · have w1 : IntKind.i64.wrap ((k : Int) + 1) = k + 1 := wrap_in (by omega)
          have hk' : (k : Int) < 400 := by omega
          have h10 := c10 given _ rfl (by omega) k
          by_cases hin : (k : Int) ∈ given
          · have hmk := (k3 k).2 ⟨hin, Int.le_refl _⟩
            cases free2 with
            | nil => exact (mem_nil hmk).elim
            | cons r rs =>
              obtain ⟨t1, t2⟩ := tk_ok k2
              have tl := tk_len (r := r) (rs := rs)
              have hr1 := first_le k2 hmk
              have hr2 := ((k3 r.From).1 (mem_cons.2 (.inl ⟨Int.le_refl _, (okL_cons.1 k2).1.2.1⟩))).2
              have hrk : r.From = k := by omega
              have h12 := c12 (r :: rs) (by omega)
              rw [take_cons k2, hrk] at h12
              rw [hrk] at t2
              generalize tk r rs = q at h12 t1 t2 tl
              generalize r :: rs = f at k3 k4 h12 t2 tl
              simp [hk']
              refine ⟨_, _, .inl h10, trivial, ?_⟩
              simp [hin]
              refine ⟨_, _, .inl h12, trivial, ?_⟩
              simp [w1]
              refine ⟨k + 1, q, ⟨by omega, t1, fun m => ?_, by omega⟩, by omega, rfl, by simp⟩
              rw [t2, k3]
              constructor
              · rintro ⟨⟨a, b⟩, c⟩; exact ⟨a, by omega⟩
              · rintro ⟨a, b⟩; exact ⟨⟨a, by omega⟩, by omega⟩
          · simp [hk']
            refine ⟨_, _, .inl h10, trivial, ?_⟩
            simp [hin, w1]
            refine ⟨k + 1, free2, ⟨by omega, k2, fun m => ?_, k4⟩, by omega, rfl, by simp⟩
            rw [k3]
            constructor
            · rintro ⟨a, b⟩
              have : m ≠ k := fun e => hin (e ▸ a)
              exact ⟨a, by omega⟩
            · rintro ⟨a, b⟩; exact ⟨a, by omega⟩
        · have hk' : ¬ ((k : Int) < 400) := by omega
          have he : free2 = [] := mem_empty k2 fun m hm => by
            obtain ⟨a, b⟩ := (k3 m).1 hm
            have := h5 m a
            omega
          subst he
          have h12 := c12 [] (by decide)
          have e : takeL [] = (0, [], 8) := rfl
          rw [e] at h12
          simp [hk']
          refine ⟨_, _, .inl h12, trivial, ?_⟩
          simp
          refine ⟨_, _, .inl c8, trivial, ?_⟩
          simp
end Go.Proofs.Ytlpgadlfpigbhaa
