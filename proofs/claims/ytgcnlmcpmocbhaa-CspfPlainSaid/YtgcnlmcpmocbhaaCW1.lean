/- The heap, by the program: the first, and what is dropped. -/
import Derived.Test.YtgcnlmcpmocbhaaC27
import Derived.Test.YtgcnlmcpmocbhaaAmA
set_option linter.unusedSimpArgs false
set_option linter.unusedVariables false
namespace Go.Proofs.Ytgcnlmcpmocbhaa
open Go Go.Am Go.Wk

theorem settle_one (ks : List Int) (x : Nat) : settleH ks [x] 0 = [x] := by simp [settleH, up, down, chi]
section
variable (N : Nat) (jk : List Nat) (ks : List Int)
set_option maxHeartbeats 4000000 in
set_option maxRecDepth 10000 in
-- Set of the first number
theorem c65n (hk : ks.length = N) (x : Nat) (hxN : x < N) (v : Int) :
    CFun Try.prog 65 [.ptr 2 0, .int .i64 x, .int .i64 v] [rowZ (plOf N []), rowZ ks, [.sl 0 [] .full, .osl 0 0 N (some N) 1, .osl 1 0 N (some N) 1]] (.bool true)
      [rowZ (plOf N [x]), rowZ (ks.set x v), [.osl 3 0 1 none 1, .osl 0 0 N (some N) 1, .osl 1 0 N (some N) 1], rowN [x]] := by
  refine CFun.intro (tr := [200074, 100048]) (fz := []) (n := 75) (rs := [.tmp 6]) Try.func65 rfl (by kernel_rfl) rfl rfl mixed (by kernel_rfl) (by simp) (by simp) ?_
  have h := c74 N [] (ks.set x v) (by simpa using hk) 1 (by decide) [x] rfl (by simp) (by simp; exact hxN) 0 (by decide)
  rw [settle_one] at h
  have e1 := rowZ_get (plOf_get [] hxN)
  rw [if_neg (by simp)] at e1
  have l0 := leN 4 [x]
  have l2 := leI 4 (plOf N [x])
  have l3 := leI 4 (ks.set x v)
  have hpl := plOf_snoc (N := N) (l := []) (x := x) (by simp) hxN
  simp only [hH, hB, List.append_nil, List.nil_append, List.length_nil, List.length_singleton] at h hpl
  have hAt' := hAt (H := [rowZ (plOf N [x]), rowZ (ks.set x v), [.osl 3 0 1 none 1, .osl 0 0 N (some N) 1, .osl 1 0 N (some N) 1], rowN [x]]) h (a := 2) (p := 3) (q := 0) (r := 1) (by decide) (by decide) (by decide) (by decide) (by decide) (by decide) rfl rfl rfl rfl rfl rfl
  have q1 := rowZ_set (plOf N []) x 0
  rw [show ((0 : Nat) : Int) = 0 from rfl] at hpl
  rw [hpl] at q1
  have q2 := rowZ_set ks x v
  have b0 : ¬ (x : Int) < 0 := by omega
  have b1 : ¬ (N : Int) ≤ x := by omega
  have b3 : x + 1 ≤ ks.length := by omega
  have b4 : ¬ N ≤ x := by omega
  have b5 : x + 1 ≤ N := by omega
  have hpll := plOf_len N []
  have hone : rowN [x] = [.int .i64 (x : Int)] := rfl
  have g1 : (rowZ (plOf N [x]))[x]? = some (.int .i64 0) := by
    refine rowZ_get ?_
    rw [plOf_get _ hxN, if_pos (by simp)]
    simp
  rw [hone] at hAt' l0 ⊢
  simp [b0, b1, b3, b4, b5, e1, gE e1, gE g1, g1, hxN, q1, q2, hpll, -List.all_eq_true]
  refine ⟨_, _, .inl (by simpa [four, ren, ren0, ren00] using hAt'), by simp, ?_⟩
  simp [l0, l2, l3]
/-- What is left when the first is taken. -/
def popL (ks : List Int) (l : List Nat) : List Nat := if 0 < l.length - 1 then settleH ks ((sw l 0 (l.length - 1)).take (l.length - 1)) 0 else (sw l 0 (l.length - 1)).take (l.length - 1)
set_option maxHeartbeats 4000000 in
set_option maxRecDepth 10000 in
-- Drop of the first number
theorem c78 (hk : ks.length = N) (n : Nat) (hn : n < 1000000) (its : List Nat) (hl : its.length = n + 1) (hd : its.Nodup) (hN : ∀ x ∈ its, x < N) (x : Nat) (hx : its.getD 0 0 = x) :
    CFun Try.prog 78 [.ptr 0 0, .int .i64 x] (hH N its jk ks) (.bool true) (hH N (popL ks its) (x :: jk) ks) := by
  refine CFun.intro (tr := []) (fz := []) (n := 53) (rs := [.tmp 4]) Try.func78 rfl (by kernel_rfl) rfl rfl mixed (by kernel_rfl) (by simp) (by simp) ?_
  have hxm : x ∈ its := hx ▸ get_mem (by omega)
  have hxN := hN x hxm
  have hi : its.idxOf x = 0 := idx_of hd (by omega) hx
  have h79 := c79 N its jk ks x hxN
  have h76 := c76 N its jk ks hd 0 n (by omega) (by omega) hN
  have e1 := rowZ_get (plOf_get its hxN)
  rw [if_pos hxm, hi] at e1
  obtain ⟨its2, h2⟩ : ∃ its2, its2 = (sw its 0 n).take n := ⟨_, rfl⟩
  have hs : sw its 0 n = its2 ++ [x] := by
    have h0 : (sw its 0 n).length = n + 1 := by rw [sw_len, hl]
    have h1 : (sw its 0 n).getD n 0 = x := by rw [sw_get (by omega) (by omega), if_pos rfl]; exact hx
    rw [h2]
    have h3 : (sw its 0 n)[n]? = some x := by rw [getD_of (by omega), h1]
    have := List.take_add_one (l := sw its 0 n) (i := n)
    rw [h3, List.take_of_length_le (by omega)] at this
    simpa using this
  have hp := sw_perm its (i := 0) (j := n) (by omega) (by omega)
  rw [hs] at hp
  have hnd : (its2 ++ [x]).Nodup := hp.nodup_iff.2 hd
  have hl2 : its2.length = n := by have := hp.length_eq; simp at this; omega
  have hd2 : its2.Nodup := (List.nodup_append.1 hnd).1
  have hN2 : ∀ y ∈ its2, y < N := fun y hy => hN y (hp.mem_iff.1 (by simp [hy]))
  have hpd := plOf_drop (N := N) hnd hxN
  have hpop : popL ks its = if 0 < n then settleH ks its2 0 else its2 := by
    unfold popL
    rw [hl, Nat.add_sub_cancel, ← h2]
  rw [hpop]
  rw [hs] at h76
  have q1 := rowZ_set (plOf N (its2 ++ [x])) x (-1)
  rw [hpd] at q1
  have hap : its2 ++ [x] ++ jk = its2 ++ x :: jk := by simp
  have hpll := plOf_len N its
  have hpl2 := plOf_len N (its2 ++ [x])
  have hlen2 : (its2 ++ [x]).length = n + 1 := by simp [hl2]
  simp only [hH, hB, hl, hlen2, hap] at h79 h76 ⊢
  have b5 : x + 1 ≤ N := by omega
  have w1 : IntKind.i64.wrap (n : Int) = n := wrap_in (by omega)
  have hxi : (decide (x ∈ its)) = true := by simpa using hxm
  rw [hxi] at h79
  have hlr : n ≤ (rowN (its2 ++ x :: jk)).length := by simp; omega
  have b6 : n ≤ its2.length + (jk.length + 1) := by omega
  have b9 : (n : Int) ≤ (n : Int) + 1 := by omega
  simp
  refine ⟨_, _, .inl (by simpa using h79), by simp, ?_⟩
  by_cases h0 : 0 < n
  · have h := c74 N (x :: jk) ks hk n hn its2 hl2 hd2 hN2 0 h0
    have hsl := (settle_perm (ks := ks) (l := its2) (i := 0) (by omega)).length_eq
    rw [if_pos h0]
    simp only [hH, hB, hl2, hsl] at h ⊢
    have l0 := leN 4 (settleH ks its2 0 ++ x :: jk)
    have l2 := leI 4 (plOf N (settleH ks its2 0))
    have l3 := leI 4 ks
    generalize settleH ks its2 0 = its3 at *
    simp [e1, gE e1, hpll, hxN, w1]
    refine ⟨_, _, .inl (by simpa using h76), by simp, ?_⟩
    simp [hpl2, hxN, b5, q1, w1, h0, b6, b9]
    refine ⟨_, _, .inl (by simpa using h), by simp, ?_⟩
    simp [l0, l2, l3]
  · rw [if_neg h0]
    have l0 := leN 4 (its2 ++ x :: jk)
    have l2 := leI 4 (plOf N its2)
    have l3 := leI 4 ks
    simp [e1, gE e1, hpll, hxN, w1]
    refine ⟨_, _, .inl (by simpa using h76), by simp, ?_⟩
    simp [hpl2, hxN, b5, q1, w1, h0, b6, b9, hl2, l0, l2, l3]
set_option maxHeartbeats 4000000 in
set_option maxRecDepth 10000 in
-- Pop of one
theorem c67a (hk : ks.length = N) (n : Nat) (hn : n < 1000000) (its : List Nat) (hl : its.length = n + 1) (hd : its.Nodup) (hN : ∀ x ∈ its, x < N) :
    CFun Try.prog 67 [.ptr 0 0] (hH N its jk ks) (.tup [.int .i64 (its.getD 0 0 : Nat), .int .i64 (ks.getD (its.getD 0 0) 0), .bool true]) (hH N (popL ks its) (its.getD 0 0 :: jk) ks) := by
  refine CFun.intro (tr := []) (fz := []) (n := 18) (rs := [.tmp 2, .tmp 3, .tmp 4]) Try.func67 rfl (by kernel_rfl) rfl rfl mixed (by kernel_rfl) (by simp) (by simp) ?_
  have h77 := c77 N its jk ks hk hN
  have h78 := c78 N jk ks hk n hn its hl hd hN _ rfl
  rw [if_neg (by omega)] at h77
  have l0 := leN 4 (popL ks its ++ its.getD 0 0 :: jk)
  have l2 := leI 4 (plOf N (popL ks its))
  have l3 := leI 4 ks
  simp only [hH, hB] at *
  generalize its.getD 0 0 = x at *
  generalize ks.getD x 0 = v at *
  generalize popL ks its = its3 at *
  simp
  refine ⟨_, _, .inl (by simpa using h77), by simp, ?_⟩
  simp
  refine ⟨_, _, .inl (by simpa using h78), by simp, ?_⟩
  simp [l0, l2, l3]
set_option maxHeartbeats 4000000 in
set_option maxRecDepth 10000 in
-- Pop of none
theorem c67n (hk : ks.length = N) : CFun Try.prog 67 [.ptr 0 0] (hH N [] jk ks) (.tup [.int .i64 0, .int .i64 0, .bool false]) (hH N [] jk ks) := by
  refine CFun.intro (tr := []) (fz := []) (n := 18) (rs := [.tmp 2, .tmp 3, .tmp 4]) Try.func67 rfl (by kernel_rfl) rfl rfl mixed (by kernel_rfl) (by simp) (by simp) ?_
  have h77 := c77 N [] jk ks hk (by simp)
  rw [if_pos (show ([] : List Nat).length = 0 from rfl)] at h77
  have l0 := leN 4 jk
  have l2 := leI 4 (plOf N [])
  have l3 := leI 4 ks
  simp only [hH, hB, List.nil_append, List.length_nil] at *
  simp
  refine ⟨_, _, .inl (by simpa using h77), by simp, ?_⟩
  simp [l0, l2, l3]
end
end Go.Proofs.Ytgcnlmcpmocbhaa

/- The heap, by the program: a new one. -/
namespace Go.Proofs.Ytgcnlmcpmocbhaa
open Go Go.Am Go.Wk

set_option maxHeartbeats 4000000 in
set_option maxRecDepth 10000 in
theorem c64 (n : Nat) (h0 : 0 < n) (hn : n ≤ 65536) : CFun Try.prog 64 [.int .i64 n] [] (.ptr 2 0) [rowZ (plOf n []), rowZ (List.replicate n 0), [.sl 0 [] .full, .osl 0 0 n (some n) 1, .osl 1 0 n (some n) 1]] := by
  refine CFun.intro (tr := [100009, 100011, 600002]) (fz := []) (n := 30) (rs := [.tmp 2]) Try.func64 rfl (by kernel_rfl) rfl rfl mixed (by kernel_rfl) (by simp) (by simp) ?_
  have w1 : max (n : Int) 0 = n := by omega
  have w2 : ¬ (65536 : Int) < n := by omega
  have b1 : ¬ (n : Int) < 0 := by omega
  simp [w1, w2, b1]
  generalize hK : awp Try.prog _ _ _ _ _ = K
  have key : ∀ (t : Nat → AVal) (H : List (List AVal)), t 3 = .ptr 2 0 → (H = [rowZ (List.replicate n 0), rowZ (List.replicate n 0), [.sl 0 [] .full, .osl 0 0 n (some n) 1, .osl 1 0 n (some n) 1]] ∨ H = [rowZ (List.replicate n 0), rowZ (List.replicate n 0), [.sl 0 [] .full, .osl 1 0 n (some n) 1, .osl 0 0 n (some n) 1]]) → K ⟨t, H⟩ := by
    have hw : ∀ i : Nat, i < n → IntKind.i64.wrap ((i : Int) + 1) = i + 1 := fun i hi => wrap_in (by omega)
    rintro t H h3 hH
    rw [← hK]
    clear hK K
    obtain ⟨mid, hmid⟩ : ∃ mid : Nat → List AVal, mid = fun i => rowZ (List.replicate i (-1 : Int) ++ List.replicate (n - i) 0) := ⟨_, rfl⟩
    have hle : ∀ m i, LeCells m (mid i) (mid i) := fun m i => by rw [hmid]; exact leI m _
    have hleS : ∀ (σ : Nat → Nat) (N n i : Nat), LeCellsS σ N n (mid i) (mid i) := by
      intro σ N n' i
      rw [hmid]
      show LeCellsS σ N n' (rowZ _) (rowZ _)
      generalize (List.replicate i (-1 : Int) ++ List.replicate (n - i) 0) = l
      unfold rowZ
      induction l with
      | nil => trivial
      | cons x l ih => exact ⟨LeV_refl _, rfl, rfl, ih⟩
    have hml : ∀ i, i ≤ n → (mid i).length = n := fun i hi => by rw [hmid]; simp; omega
    have hset : ∀ i, i < n → (mid i).set i (.int .i64 (-1)) = mid (i + 1) := by
      intro i hi
      rw [hmid]
      show (rowZ _).set i _ = rowZ _
      rw [rowZ_set, List.set_append_right _ _ (by simp)]
      congr 1
      rw [List.replicate_succ', List.append_assoc]
      congr 1
      rw [show n - i = (n - (i + 1)) + 1 by omega, List.replicate_succ]
      simp
    have hfin : rowZ (plOf n []) = mid n := by
      rw [hmid]
      show _ = rowZ _
      congr 1
      simp only [plOf, List.not_mem_nil, if_false, Nat.sub_self, List.replicate_zero, List.append_nil]
      rw [List.map_const']
      simp
    have h00 : rowZ (List.replicate n 0) = mid 0 := by rw [hmid]; simp
    rw [h00] at hH ⊢
    rw [hfin]
    clear hmid hfin h00
    rcases hH with rfl | rfl
    all_goals
      simp [h3]
      refine LoopK.introS (tr := [100009, 100011, 600002]) mixed (by kernel_rfl) (fun q : Nat × Bool => [(3, .ptr 2 0), (18, .int .i64 n), (19, .int .i64 q.1)])
        (fun q => if q.2 = true then [mid 0, mid 0, [.sl 0 [] .full, .osl 1 0 n (some n) 1, .osl 0 0 n (some n) 1]] else [mid q.1, mid 0, [.sl 0 [] .full, .osl 0 0 n (some n) 1, .osl 1 0 n (some n) 1]]) (fun q => q.1 ≤ n ∧ (q.2 = true → q.1 = 0)) (fun q => n - q.1) ?_ ?_ ?_ ?_
    case inl.refine_1 => exact (0, false)
    case inr.refine_1 => exact (0, true)
    case inl.refine_2 => simp
    case inr.refine_2 => simp
    case inl.refine_3 => simp [h3, hle]
    case inr.refine_3 => simp [h3, hle]
    all_goals
      rintro ⟨i, b⟩ ⟨h1, h2⟩
      simp only at h1 h2
      generalize hPQ : LoopPostS _ _ _ _ _ _ _ = PQ
      by_cases hi : i < n
      case neg =>
        have : i = n := by omega
        subst this
        have hb : b = false := by
          cases b with
          | false => rfl
          | true => have := h2 rfl; omega
        subst hb
        simp
        rw [← hPQ]
        simp only [LoopPostS]
        simp [hle]
      have hm := hml i (by omega)
      have hm0 := hml 0 (by omega)
      have hs := hset i hi
      have hi1 : i + 1 ≤ n := hi
      have hw1 := hw i hi
      cases b with
      | false =>
        simp [hi, hm, hi1, hs]
        rw [← hPQ]
        simp only [LoopPostS]
        exact ⟨(i + 1, false), ⟨by omega, by simp⟩, by simp only; omega, .inl (by simp [hw1, hle])⟩
      | true =>
        have : i = 0 := h2 rfl
        subst this
        have hn1 : 1 ≤ n := hi1
        simp [hi, hm0, hn1, hs]
        rw [← hPQ]
        simp only [LoopPostS]
        refine ⟨(1, false), ⟨by simp only; omega, by simp⟩, by simp only; omega, .inr ⟨0, 1, Nat.zero_le _, Nat.zero_le _, by simp, by simp, Nat.zero_le _, ?_, ?_⟩⟩
        · simp [LeLookS, ren, ren0, swp]
          exact hw 0 hi
        · simp [LeBoxesS, swpH, hleS, LeCellsS, ren, ren0, swp]
  clear hK
  have hz : List.replicate n (AVal.int IntKind.i64 0) = rowZ (List.replicate n 0) := by simp [rowZ]
  have b2 : (n : Int) * 8 ≤ 281474976710656 := by omega
  have b3 : (n : Int) ≤ 9223372036854775807 := by omega
  have b4 : 8 * n ≤ 281474976710656 := by omega
  have b5 : n ≤ 9223372036854775807 := by omega
  unfold AnyK
  refine awpAll_step [0, 2] (by decide +kernel) (by decide) ?_
  simp [h0, b1, b2, b3, b4, b5]
  refine ⟨?_, ?_⟩
  all_goals first
    | refine awpAll_step [1, 2] (by decide +kernel) (by decide) ?_
    | refine awpAll_step [0, 3] (by decide +kernel) (by decide) ?_
  all_goals simp [h0, b1, b2, b3, b4, b5, hz]
  all_goals refine ⟨?_, ?_⟩
  all_goals first
    | (refine awpAll_step [1, 3] (by decide +kernel) (by decide) ?_; simp [h0, b1, b2, b3, b4, b5, hz]; refine ⟨?_, ?_⟩)
    | (refine awpAll_step [2] (by decide +kernel) (by decide) ?_; simp [h0, b1, b2, b3, b4, b5, hz])
    | (refine awpAll_step [0] (by decide +kernel) (by decide) ?_; simp [h0, b1, b2, b3, b4, b5, hz])
  all_goals first
    | (refine awpAll_step [1] (by decide +kernel) (by decide) ?_; simp [h0, b1, b2, b3, b4, b5, hz])
    | (refine awpAll_step [3] (by decide +kernel) (by decide) ?_; simp [h0, b1, b2, b3, b4, b5, hz])
  all_goals
    refine awpAll_step [4] (by decide +kernel) (by decide) ?_
    simp [h0, b1, b2, b3, b4, b5, hz]
    refine awpAll_step [5] (by decide +kernel) (by decide) ?_
    simp [h0, b1, b2, b3, b4, b5, hz]
    refine awpAll_step [6] (by decide +kernel) (by decide) ?_
    simp
    exact ⟨by decide +kernel, key _ _ (by simp) (by simp)⟩
end Go.Proofs.Ytgcnlmcpmocbhaa

/- A heap stays a heap. No program. -/
namespace Go.Wk
open Go.Proofs.Ytgcnlmcpmocbhaa (down_step down_stop chi_two chi_one)

abbrev okJ (ks : List Int) (l : List Nat) (j : Nat) : Prop := ltK ks (l.getD j 0) (l.getD ((j - 1) / 2) 0) = false
def HeapOk (ks : List Int) (l : List Nat) : Prop := ∀ j, 0 < j → j < l.length → okJ ks l j
structure UpI (ks : List Int) (l : List Nat) (i : Nat) : Prop where
  ok : ∀ j, 0 < j → j < l.length → j ≠ i → (j - 1) / 2 ≠ i → okJ ks l j
  gr : ∀ j, 0 < j → j < l.length → (j - 1) / 2 = i → 0 < i → ltK ks (l.getD j 0) (l.getD ((i - 1) / 2) 0) = false
structure DnI (ks : List Int) (l : List Nat) (i : Nat) : Prop where
  ok : ∀ j, 0 < j → j < l.length → (j - 1) / 2 ≠ i → okJ ks l j
  gr : ∀ j, 0 < j → j < l.length → (j - 1) / 2 = i → 0 < i → ltK ks (l.getD j 0) (l.getD ((i - 1) / 2) 0) = false
theorem up_ok {ks : List Int} : ∀ {f : Nat} {l : List Nat} {i : Nat}, i < l.length → i ≤ f → UpI ks l i → DnI ks (up ks f l i).1 (up ks f l i).2 ∧ (up ks f l i).2 < (up ks f l i).1.length := by
  intro f
  induction f with
  | zero =>
    intro l i h h1 hu
    have : i = 0 := by omega
    subst this
    exact ⟨⟨fun j a b c => hu.ok j a b (by omega) c, hu.gr⟩, h⟩
  | succ f ih =>
    intro l i h h1 hu
    simp only [up]
    split
    · rename_i hc
      simp only [Bool.and_eq_true, decide_eq_true_eq] at hc
      obtain ⟨hi, hlt⟩ := hc
      obtain ⟨p, hp⟩ : ∃ p, p = (i - 1) / 2 := ⟨_, rfl⟩
      rw [← hp] at hlt ⊢
      have hpl : p < l.length := by omega
      have g := fun k => sw_get (k := k) h hpl
      refine ih (by rw [sw_len]; exact hpl) (by omega) ⟨fun j a b c d => ?_, fun j a b c d => ?_⟩
      · rw [sw_len] at b
        have hji : j ≠ i := by rintro rfl; exact d hp.symm
        show ltK ks ((sw l i p).getD j 0) ((sw l i p).getD ((j - 1) / 2) 0) = false
        rw [g, g, if_neg c, if_neg hji, if_neg d]
        by_cases e : (j - 1) / 2 = i
        · rw [if_pos e]
          have := hu.gr j a b e hi
          rw [← hp] at this
          exact this
        · rw [if_neg e]
          exact hu.ok j a b hji e
      · rw [sw_len] at b
        have e1 : (p - 1) / 2 ≠ p := by omega
        have e2 : (p - 1) / 2 ≠ i := by omega
        have hjp : j ≠ p := by omega
        have hpp := hu.ok p d hpl (by omega) e2
        rw [g, g, if_neg hjp, if_neg e1, if_neg e2]
        by_cases e : j = i
        · rw [if_pos e]
          exact hpp
        · rw [if_neg e]
          have := hu.ok j a b e (by omega)
          unfold okJ at this
          rw [c] at this
          exact ltK_trans hpp this
    · rename_i hc
      simp only [Bool.and_eq_true, decide_eq_true_eq, not_and] at hc
      refine ⟨⟨fun j a b c => ?_, hu.gr⟩, h⟩
      by_cases e : j = i
      · subst e
        cases hh : ltK ks (l.getD j 0) (l.getD ((j - 1) / 2) 0) with
        | false => exact hh
        | true => exact (hc a hh).elim
      · exact hu.ok j a b e c
theorem down_ok {ks : List Int} : ∀ {f : Nat} {l : List Nat} {i : Nat}, i < l.length → l.length < f + i → DnI ks l i → HeapOk ks (down ks f l i) := by
  intro f
  induction f with
  | zero => intro l i h h1 _; omega
  | succ f ih =>
    intro l i h h1 hd
    obtain ⟨k1, hk1⟩ : ∃ k1, k1 = 2 * i + 1 := ⟨_, rfl⟩
    obtain ⟨k2, hk2⟩ : ∃ k2, k2 = k1 + 1 := ⟨_, rfl⟩
    -- the lesser child
    have hch : ∃ k, chi ks l i = k ∧ (k = k1 ∨ k = k2) ∧ (k2 < l.length → k < l.length) ∧ ∀ j, j < l.length → (j = k1 ∨ j = k2) → ltK ks (l.getD j 0) (l.getD k 0) = false := by
      by_cases c2 : k2 < l.length
      · cases hb : ltK ks (l.getD k2 0) (l.getD k1 0) with
        | true =>
          refine ⟨k2, chi_two hk1 hk2 c2 hb, .inr rfl, fun h => h, fun j _ hj => ?_⟩
          rcases hj with rfl | rfl
          · exact ltK_asymm hb
          · exact ltK_irrefl _ _
        | false =>
          refine ⟨k1, chi_one hk1 hk2 (.inr hb), .inl rfl, fun h => by omega, fun j _ hj => ?_⟩
          rcases hj with rfl | rfl
          · exact ltK_irrefl _ _
          · exact hb
      · refine ⟨k1, chi_one hk1 hk2 (.inl c2), .inl rfl, fun h => absurd h c2, fun j hjl hj => ?_⟩
        rcases hj with rfl | rfl
        · exact ltK_irrefl _ _
        · exact absurd hjl c2
    obtain ⟨k, e, hk, hkl, hmin⟩ := hch
    have hpar : ∀ j, 0 < j → (j - 1) / 2 = i → j = k1 ∨ j = k2 := by omega
    by_cases c : k < l.length ∧ ltK ks (l.getD k 0) (l.getD i 0) = true
    · obtain ⟨c1, c2⟩ := c
      rw [down_step e c1 c2]
      have g := fun q => sw_get (k := q) h c1
      have hik : i ≠ k := by omega
      refine ih (by rw [sw_len]; exact c1) (by rw [sw_len]; omega) ⟨fun j a b d => ?_, fun j a b d _ => ?_⟩
      · rw [sw_len] at b
        show ltK ks ((sw l i k).getD j 0) ((sw l i k).getD ((j - 1) / 2) 0) = false
        rw [g, g, if_neg d]
        by_cases j1 : j = k
        · subst j1
          rw [if_pos rfl, if_pos (by omega)]
          exact ltK_asymm c2
        · rw [if_neg j1]
          by_cases j2 : j = i
          · subst j2
            rw [if_pos rfl, if_neg (by omega)]
            exact hd.gr k (by omega) c1 (by omega) a
          · rw [if_neg j2]
            by_cases j3 : (j - 1) / 2 = i
            · rw [if_pos j3]
              exact hmin j b (hpar j a j3)
            · rw [if_neg j3]
              exact hd.ok j a b j3
      · rw [sw_len] at b
        have j1 : j ≠ k := by omega
        have j2 : j ≠ i := by omega
        rw [g, g, if_neg j1, if_neg j2, if_neg (by omega), if_pos (by omega)]
        have := hd.ok j a b (by omega)
        unfold okJ at this
        rw [d] at this
        exact this
    · have hs : l.length ≤ k ∨ ltK ks (l.getD k 0) (l.getD i 0) = false := by
        rcases Nat.lt_or_ge k l.length with h2 | h2
        · refine .inr ?_
          cases hb : ltK ks (l.getD k 0) (l.getD i 0) with
          | false => rfl
          | true => exact (c ⟨h2, hb⟩).elim
        · exact .inl h2
      rw [down_stop e hs]
      intro j a b
      by_cases hj : (j - 1) / 2 = i
      · have hj2 := hpar j a hj
        have hkk : k < l.length := by
          rcases Nat.lt_or_ge k2 l.length with q | q
          · exact hkl q
          · have := chi_one (ks := ks) (l := l) hk1 hk2 (.inl (by omega))
            rw [e] at this
            omega
        have h3 := hs.resolve_left (by omega)
        show ltK ks (l.getD j 0) (l.getD ((j - 1) / 2) 0) = false
        rw [hj]
        exact ltK_trans h3 (hmin j b hj2)
      · exact hd.ok j a b hj
theorem settle_ok {ks : List Int} {l : List Nat} {i : Nat} (h : i < l.length) (hu : UpI ks l i) : HeapOk ks (settleH ks l i) := by
  have u := up_ok h (Nat.le_refl _) hu
  have v := Go.Proofs.Ytgcnlmcpmocbhaa.up_inv (ks := ks) (N := 0) (f := i) h
  unfold settleH
  exact down_ok u.2 (by rw [v.1.length_eq]; omega) u.1
theorem heap_root {ks : List Int} {l : List Nat} (h : HeapOk ks l) : ∀ n j, j ≤ n → j < l.length → ltK ks (l.getD j 0) (l.getD 0 0) = false := by
  intro n
  induction n with
  | zero =>
    intro j hj _
    have : j = 0 := by omega
    subst this
    exact ltK_irrefl _ _
  | succ n ih =>
    intro j hj hl
    by_cases h0 : j = 0
    · subst h0; exact ltK_irrefl _ _
    · exact ltK_trans (ih ((j - 1) / 2) (by omega) (by omega)) (h j (by omega) hl)
theorem heap_min {ks : List Int} {l : List Nat} (h : HeapOk ks l) {x : Nat} (hx : x ∈ l) : ks.getD (l.getD 0 0) 0 ≤ ks.getD x 0 := by
  obtain ⟨h1, h2⟩ := get_idx hx
  have := heap_root h _ _ (Nat.le_refl _) h2
  rw [h1] at this
  simp only [ltK, Bool.or_eq_false_iff, decide_eq_false_iff_not] at this
  omega
theorem ltK_set {ks : List Int} {x a b : Nat} {v : Int} (ha : a ≠ x) (hb : b ≠ x) : ltK (ks.set x v) a b = ltK ks a b := by
  unfold ltK
  simp only [List.getD_eq_getElem?_getD, List.getElem?_set_ne (Ne.symm ha), List.getElem?_set_ne (Ne.symm hb)]
theorem nd_ne {l : List Nat} (hd : l.Nodup) {i j : Nat} (hi : i < l.length) (hj : j < l.length) (h : i ≠ j) : l.getD i 0 ≠ l.getD j 0 := by
  intro e
  have h1 := idx_get hd hi
  rw [e, idx_get hd hj] at h1
  exact h h1.symm
theorem set_old {ks : List Int} {l : List Nat} (hd : l.Nodup) (h : HeapOk ks l) {x : Nat} (hx : x ∈ l) (v : Int) : HeapOk (ks.set x v) (settleH (ks.set x v) l (l.idxOf x)) := by
  obtain ⟨h1, h2⟩ := get_idx hx
  refine settle_ok h2 ⟨fun j a b c d => ?_, fun j a b c d => ?_⟩
  · have n1 := nd_ne hd b h2 c
    have n2 := nd_ne hd (i := (j - 1) / 2) (by omega) h2 d
    rw [h1] at n1 n2
    show ltK _ _ _ = false
    rw [ltK_set n1 n2]
    exact h j a b
  · have n1 := nd_ne hd b h2 (by omega)
    have n2 := nd_ne hd (i := (l.idxOf x - 1) / 2) (by omega) h2 (by omega)
    rw [h1] at n1 n2
    rw [ltK_set n1 n2]
    have e1 := h j a b
    unfold okJ at e1
    rw [c] at e1
    exact ltK_trans (h _ d h2) e1
theorem getD_app {l r : List Nat} {i : Nat} (h : i < l.length) : (l ++ r).getD i 0 = l.getD i 0 := by simp [List.getD_eq_getElem?_getD, List.getElem?_append_left h]
theorem set_new {ks : List Int} {l : List Nat} (h : HeapOk ks l) {x : Nat} (hx : x ∉ l) (v : Int) : HeapOk (ks.set x v) (settleH (ks.set x v) (l ++ [x]) l.length) := by
  refine settle_ok (by simp) ⟨fun j a b c d => ?_, fun j a b c d => ?_⟩
  · simp at b
    have n1 : l.getD j 0 ≠ x := fun e => hx (e ▸ get_mem (by omega))
    have n2 : l.getD ((j - 1) / 2) 0 ≠ x := fun e => hx (e ▸ get_mem (by omega))
    show ltK _ _ _ = false
    rw [getD_app (by omega), getD_app (by omega), ltK_set n1 n2]
    exact h j a (by omega)
  · simp at b
    omega
theorem pop_ok {ks : List Int} {l : List Nat} {n : Nat} (hl : l.length = n + 1) (h : HeapOk ks l) : HeapOk ks (if 0 < n then settleH ks ((sw l 0 n).take n) 0 else (sw l 0 n).take n) := by
  have ht : ∀ j, j < n → j ≠ 0 → ((sw l 0 n).take n).getD j 0 = l.getD j 0 := by
    intro j hj h0
    have : ((sw l 0 n).take n).getD j 0 = (sw l 0 n).getD j 0 := by simp [List.getD_eq_getElem?_getD, List.getElem?_take, hj]
    rw [this, sw_get (by omega) (by omega), if_neg (by omega), if_neg h0]
  have hlen : ((sw l 0 n).take n).length = n := by simp [sw_len]; omega
  split
  · refine settle_ok (by omega) ⟨fun j a b c d => ?_, fun j a b c d => by omega⟩
    rw [hlen] at b
    show ltK _ _ _ = false
    rw [ht j b (by omega), ht _ (by omega) d]
    exact h j a (by omega)
  · intro j a b
    omega
end Go.Wk

/- Walks in a graph of states: the least of them by cost, number of steps and order of their nodes. -/
namespace Go.Wk

abbrev Arc := Nat × Nat × Nat
/-- A walk: the states behind its first one, and its cost. -/
inductive W (E : List Arc) : Nat → List Nat → Nat → Nat → Prop
  | nil (x : Nat) : W E x [] 0 x
  | cons {x y z c d : Nat} {ys : List Nat} (h : (x, y, c) ∈ E) (t : W E y ys d z) : W E x (y :: ys) (c + d) z

theorem W.nil_inv {E : List Arc} {x z c : Nat} (h : W E x [] c z) : c = 0 ∧ z = x := by
  cases h
  exact ⟨rfl, rfl⟩
theorem W.cons_inv {E : List Arc} {x y z c : Nat} {ys : List Nat} (h : W E x (y :: ys) c z) : ∃ a d, (x, y, a) ∈ E ∧ W E y ys d z ∧ c = a + d := by
  cases h with
  | cons h t => exact ⟨_, _, h, t, rfl⟩
theorem W.append {E : List Arc} {x y z : Nat} {ys zs : List Nat} {c d : Nat} (h : W E x ys c y) (k : W E y zs d z) : W E x (ys ++ zs) (c + d) z := by
  induction h with
  | nil x => simpa using k
  | cons h t ih => rw [Nat.add_assoc]; exact .cons h (ih k)
theorem W.one {E : List Arc} {x y c : Nat} (h : (x, y, c) ∈ E) : W E x [y] c y := by
  simpa using W.cons h (.nil y)
theorem W.snoc {E : List Arc} {x y z : Nat} {ys : List Nat} {c d : Nat} (h : W E x ys c y) (k : (y, z, d) ∈ E) : W E x (ys ++ [z]) (c + d) z := h.append (.one k)
theorem W.split {E : List Arc} : ∀ {ys zs : List Nat} {x z c : Nat}, W E x (ys ++ zs) c z → ∃ y a b, W E x ys a y ∧ W E y zs b z ∧ c = a + b := by
  intro ys
  induction ys with
  | nil => intro zs x z c h; exact ⟨x, 0, c, .nil x, h, by omega⟩
  | cons y ys ih =>
    intro zs x z c h
    obtain ⟨a, d, h1, h2, rfl⟩ := h.cons_inv
    obtain ⟨u, e, f, k1, k2, rfl⟩ := ih h2
    exact ⟨u, _, _, .cons h1 k1, k2, by omega⟩
theorem W.last {E : List Arc} {x z c : Nat} {ys : List Nat} (h : W E x ys c z) : (x :: ys).getLast? = some z := by
  induction h with
  | nil x => rfl
  | cons h t ih => simpa [List.getLast?_cons_cons] using ih
theorem W.snoc_inv {E : List Arc} {x w z c : Nat} {ys : List Nat} (h : W E x (ys ++ [w]) c z) : w = z ∧ ∃ y a b, W E x ys a y ∧ (y, z, b) ∈ E ∧ c = a + b := by
  obtain ⟨y, a, b, h1, h2, rfl⟩ := h.split
  obtain ⟨b', d, h3, h4, rfl⟩ := h2.cons_inv
  obtain ⟨rfl, rfl⟩ := h4.nil_inv
  exact ⟨rfl, y, a, b', h1, h3, by omega⟩
theorem W.mono {E F : List Arc} (hE : ∀ a, a ∈ E → a ∈ F) {x z c : Nat} {ys : List Nat} (h : W E x ys c z) : W F x ys c z := by
  induction h with
  | nil x => exact .nil x
  | cons h t ih => exact .cons (hE _ h) ih
theorem W.mem {E : List Arc} {x z c : Nat} {ys : List Nat} (h : W E x ys c z) {y : Nat} (hy : y ∈ ys) : ∃ u a, (u, y, a) ∈ E := by
  induction h with
  | nil x => cases hy
  | cons h t ih =>
    rcases List.mem_cons.1 hy with rfl | hy
    · exact ⟨_, _, h⟩
    · exact ih hy
theorem W.hops {E : List Arc} (hE : ∀ a ∈ E, 1 ≤ a.2.2) {x z c : Nat} {ys : List Nat} (h : W E x ys c z) : ys.length ≤ c := by
  induction h with
  | nil x => simp
  | cons h t ih => have := hE _ h; simp at this ⊢; omega

/-- A walk without a state twice that costs no more, and less where there was one. -/
theorem W.simple {E : List Arc} (hE : ∀ a ∈ E, 1 ≤ a.2.2) : ∀ {n : Nat} {ys : List Nat} {x z c : Nat}, ys.length ≤ n → W E x ys c z → (x :: ys).Nodup ∨ ∃ zs d, W E x zs d z ∧ d < c := by
  intro n
  induction n with
  | zero =>
    intro ys x z c hn h
    have : ys = [] := List.length_eq_zero_iff.1 (by omega)
    subst this
    exact .inl (by simp)
  | succ n ih =>
    intro ys x z c hn h
    cases ys with
    | nil => exact .inl (by simp)
    | cons y ys =>
      obtain ⟨a, d, h1, h2, rfl⟩ := h.cons_inv
      simp at hn
      rcases ih hn h2 with h3 | ⟨zs, e, h3, h4⟩
      · by_cases hx : x ∈ y :: ys
        · obtain ⟨l, r, hl⟩ := List.append_of_mem hx
          have h' : W E x ((y :: ys)) (a + d) z := h
          rw [hl] at h'
          obtain ⟨u, p, q, k1, k2, k3⟩ := h'.split
          obtain ⟨b, e, k4, k5, k6⟩ := k2.cons_inv
          refine .inr ⟨r, e, k5, ?_⟩
          have := hE _ k4
          simp at this
          omega
        · exact .inl (List.nodup_cons.2 ⟨hx, h3⟩)
      · exact .inr ⟨y :: zs, a + e, .cons h1 h3, by omega⟩
theorem nodup_length : ∀ {n : Nat} {l : List Nat}, l.Nodup → (∀ x ∈ l, x < n) → l.length ≤ n := by
  intro n
  induction n with
  | zero =>
    intro l _ h
    cases l with
    | nil => simp
    | cons x l => exact absurd (h x (by simp)) (by omega)
  | succ n ih =>
    intro l hd h
    have h1 := ih (l := l.erase n) (hd.erase n) (fun x hx => by
      have k := (hd.mem_erase_iff).1 hx
      have := h x k.2
      have := k.1
      omega)
    have h2 : l.length ≤ (l.erase n).length + 1 := by
      rw [List.length_erase]
      split <;> omega
    omega
end Go.Wk
