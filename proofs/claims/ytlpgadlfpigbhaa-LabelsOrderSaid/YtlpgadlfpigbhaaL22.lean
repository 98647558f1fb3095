import Derived.Test.YtlpgadlfpigbhaaL21
set_option linter.unusedSimpArgs false
set_option linter.unusedVariables false
namespace Go.Proofs.Ytlpgadlfpigbhaa
open Go Go.Am

set_option maxHeartbeats 1000000 in
set_option maxRecDepth 10000 in
theorem c4 (l : List LR) (n : Nat) (hn : l.length = n) (x : Int) : CFun Try.prog 4 [.sl 2 (l.map encLR) .sh, .int .i64 x] [] (.bool true) [] := by
  refine CFun.intro (tr := []) (fz := []) (n := 92) (rs := [.tmp 4]) Try.func4 rfl (by kernel_rfl) rfl rfl mixed (by kernel_rfl) (by simp) (by simp) ?_
  have hc : (l.length : Int) = n := by omega
  by_cases h2 : (200 : Int) < n
  · simp [hc, h2]
    refine ⟨_, _, .inl c8, trivial, ?_⟩
    simp
  · have hlen : n < 1099511627776 := by omega
    have hlen' : l.length < 1099511627776 := by omega
    have h12 := c12 l (by omega)
    have h13 := c13 l n hn hlen
    have h9 := c9 l n hn hlen x
    have h14 := c14 l n hn hlen x
    rw [take_same] at h13
    rw [give_same] at h14
    have ht : (takeL l).2.1.length ≤ n := by
      simp only [takeL]
      split
      · split
        · simp
        · simp only [List.length_cons] at hn; split <;> (simp; omega)
      · simp
    have hg : (giveL l x).1.length ≤ n + n + 1 := by
      simp only [giveL]
      split
      · simp
      · split
        · simp
        · split
          · simp
          · simp only [List.length_append, List.length_take, List.length_drop, List.length_cons, List.length_nil]; omega
    have h15a := c15 (takeL l).2.1 (takeL l).2.1 _ rfl _ rfl (by omega)
    have h15b := c15 (giveL l x).1 (giveL l x).1 _ rfl _ rfl (by omega)
    have h11 := c11 l n hn (by omega)
    have h16 := c16 l n hn hlen
    have h17 := c17 l hlen' x
    have h18 := c18 l n hn hlen x
    have h19 := c19 l n hn hlen
    have h20 := c20 l n hn hlen
    simp only [decide_true] at h15a h15b
    generalize takeL l = t at h12 h13 h15a
    generalize giveL l x = g at h9 h14 h15b
    generalize chk l = k at h11 h16
    generalize has l x = k2 at h17 h18
    generalize countL l = k3 at h19 h20
    clear ht hg
    simp [hc, h2]
    refine ⟨_, _, .inl h12, trivial, ?_⟩
    simp
    refine ⟨_, _, .inl h13, trivial, ?_⟩
    simp
    refine ⟨_, _, .inl h9, trivial, ?_⟩
    simp
    refine ⟨_, _, .inl h14, trivial, ?_⟩
    simp
    refine ⟨_, _, .inl h15a, trivial, ?_⟩
    simp
    refine ⟨_, _, .inl h15b, trivial, ?_⟩
    simp
    refine ⟨_, _, .inl c8, trivial, ?_⟩
    simp
    refine ⟨_, _, .inl h11, trivial, ?_⟩
    simp
    refine ⟨_, _, .inl h16, trivial, ?_⟩
    simp
    refine ⟨_, _, .inl h17, trivial, ?_⟩
    simp
    refine ⟨_, _, .inl h18, trivial, ?_⟩
    simp
    refine ⟨_, _, .inl h19, trivial, ?_⟩
    simp
    refine ⟨_, _, .inl h20, trivial, ?_⟩
    simp

/-- Bind is as the reference describes. -/
theorem rbind_true (b : Bnd) : ∀ q : List Bnd, rbind b q true = q := by
  intro q
  induction q with
  | nil => rfl
  | cons x xs ih => simp [rbind, ih]
theorem bind_same (l : List Bnd) (b : Bnd) : rbind b (delL l b.P b.Peer) false = bindL l b := by
  rw [bindL]
  generalize delL l b.P b.Peer = q
  induction q with
  | nil => rfl
  | cons x xs ih =>
    by_cases h : grB x b = true
    · have e : posF (fun x => grB x b) (x :: xs) = 0 := by simp [posF, h]
      simp [rbind, h, rbind_true, e, insB]
    · have e : posF (fun x => grB x b) (x :: xs) = posF (fun x => grB x b) xs + 1 := by simp [posF, h]
      rw [e]
      simp [rbind, h, ih, insB]

theorem bind_len (l : List Bnd) (b : Bnd) : (bindL l b).length ≤ l.length + 1 := by
  rw [bindL, insB_len (posF_le _ _)]
  have := List.length_filter_le (fun x => !isB b.P b.Peer x) l
  simp only [delL]; omega

set_option maxHeartbeats 1000000 in
set_option maxRecDepth 10000 in
theorem c6 (l : List Bnd) (n : Nat) (hn : l.length = n) (b : Bnd) : CFun Try.prog 6 [.sl 4 (l.map encB) .sh, encB b] [] (.bool true) [] := by
  refine CFun.intro (tr := []) (fz := []) (n := 83) (rs := [.tmp 4]) Try.func6 rfl (by kernel_rfl) rfl rfl mixed (by kernel_rfl) (by simp) (by simp) ?_
  have hc : (l.length : Int) = n := by omega
  have H8 := c8.up' [cellsB b] rfl rfl
  by_cases h2 : (200 : Int) < n
  · simp [hc, h2]
    refine ⟨_, _, .inl H8, trivial, ?_⟩
    simp
  · have hlen : n < 1099511627776 := by omega
    have hlen' : l.length < 1099511627776 := by omega
    have h21 := (c21 l hlen' b.P b.Peer).up' [cellsB b] rfl rfl
    have h22 := (c22 l n hc hlen b.P b.Peer).up' [cellsB b] rfl rfl
    have h23 := (c23 l n hn hlen b.P b.Peer).up' [cellsB b] rfl rfl
    have h24 := (c24 l n hc hlen b.P b.Peer).up' [cellsB b] rfl rfl
    have h26 := (c26 l n hn hlen b).up' [cellsB b] rfl rfl
    have h27 := (c27 l n hc hlen b).up' [cellsB b] rfl rfl
    rw [bind_same] at h27
    have hd : (delL l b.P b.Peer).length ≤ n := by have := List.length_filter_le (fun x => !isB b.P b.Peer x) l; simp only [delL]; omega
    have hb := bind_len l b
    have h25a := (c25 (delL l b.P b.Peer) (delL l b.P b.Peer) _ rfl _ rfl (by omega)).up' [cellsB b] rfl rfl
    have h25b := (c25 (bindL l b) (bindL l b) _ rfl _ rfl (by omega)).up' [cellsB b] rfl rfl
    simp only [decide_true] at h25a h25b
    generalize (decide ((delL l b.P b.Peer).length < l.length)) = gone at h23 h24
    generalize findB l b.P b.Peer = f at h21 h22
    generalize delL l b.P b.Peer = d at h23 h24 h25a
    generalize bindL l b = q at h26 h27 h25b
    clear hd hb
    simp only [cellsB] at *
    simp [hc, h2]
    refine ⟨_, _, .inl h21, trivial, ?_⟩
    simp
    refine ⟨_, _, .inl h22, trivial, ?_⟩
    simp
    refine ⟨_, _, .inl h23, trivial, ?_⟩
    simp
    refine ⟨_, _, .inl h24, trivial, ?_⟩
    simp
    refine ⟨_, _, .inl H8, by simp, ?_⟩
    simp
    refine ⟨_, _, .inl h25a, by simp, ?_⟩
    simp
    refine ⟨_, _, .inl h26, by simp, ?_⟩
    simp
    refine ⟨_, _, .inl h27, by simp, ?_⟩
    simp
    refine ⟨_, _, .inl h25b, by simp, ?_⟩
    simp
end Go.Proofs.Ytlpgadlfpigbhaa
