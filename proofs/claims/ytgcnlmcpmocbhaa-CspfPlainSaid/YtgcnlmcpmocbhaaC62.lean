/- The reference's Route, by the program. -/
import Derived.Test.YtgcnlmcpmocbhaaC46
import Derived.Test.YtgcnlmcpmocbhaaCW5
import Derived.Test.YtgcnlmcpmocbhaaAmAF
set_option linter.unusedSimpArgs false
set_option linter.unusedVariables false
namespace Go.Proofs.Ytgcnlmcpmocbhaa
open Go Go.Am Go.Wk

theorem bestR_mem {to : Int} {t : Nat} : ∀ {A : List Wlk} {b : Option Wlk} {w : Wlk}, bestR to t b A = some w → b = some w ∨ w ∈ A := by
  intro A
  induction A with
  | nil => intro b w h; exact .inl h
  | cons a A ih =>
    intro b w h
    rcases ih (b := bestS to t b a) h with h | h
    · unfold bestS at h
      split at h
      · injection h with h; subst h; exact .inr (by simp)
      · exact .inl h
    · exact .inr (List.mem_cons_of_mem _ h)
theorem loopR_len {l : List Lnk} {n : Nat} {c : Con} (hls : ∀ x ∈ l, okLk n x) {to : Int} {sz : Nat} : ∀ (f h : Nat) (A : List Wlk) (b : Option Wlk), okNx n c.Thru.length h A → (∀ w, b = some w → w.N.length ≤ sz) → ∀ w, loopR l c to sz f h A b = some w → w.N.length ≤ sz := by
  intro f
  induction f with
  | zero => intro h A b _ hb w hw; exact hb w hw
  | succ f ih =>
    intro h A b ok hb w hw
    simp only [loopR] at hw
    split at hw
    · rename_i hc
      refine ih _ _ _ (nextR_ok rfl hls ok.w) (fun v hv => ?_) w hw
      rcases bestR_mem hv with h1 | h1
      · exact hb v h1
      · rw [(ok.w v h1).len]; omega
    · exact hb w hw
set_option maxHeartbeats 8000000 in
set_option maxRecDepth 10000 in
theorem c16 (l : List Lnk) (m : Nat) (hm : l.length = m) (hm2 : m < 9223372036854775807) (c : Con) (p q : Nat) (hp : c.Avoid.length = p) (hq : c.Thru.length = q) (hp2 : p < 9223372036854775807) (hq2 : q < 9223372036854775807) (n fr to : Int) :
    CFun Try.prog 16 [.int .i64 n, .sl 13 (l.map encL) .sh, .int .i64 fr, .int .i64 to, encC c] [] (encRt (refN n l fr to c)) [] := by
  refine CFun.intro (tr := [30000019000007]) (fz := []) (n := 166) (rs := [.tmp 10, .tmp 11, .tmp 12]) Try.func16 rfl (by kernel_rfl) rfl rfl mixed (by kernel_rfl) (by simp) (by simp) ?_
  have h13 := fun H => (c13 l m hm hm2 c n p q hp hq hp2 hq2).up' H (by simp [noid, noid0]) rfl
  have h25 := fun H => (c25 c.Avoid p hp hp2 fr).up' H rfl rfl
  unfold refN
  by_cases g1 : checkE n l c = 0
  case neg =>
    rw [if_pos g1]
    have g1' : ¬ checkE n l c = 0 := g1
    generalize checkE n l c = e at *
    simp
    refine ⟨_, _, .inl (by simpa using h13 _), by simp, ?_⟩
    simp [g1']
  rw [if_neg (by simpa using g1)]
  rw [g1] at h13
  obtain ⟨n1, n2, l2, lk, cn⟩ := check_links g1
  obtain ⟨asc, _, lko⟩ := links_asc lk
  obtain ⟨c1, c2, c3, _⟩ := con_ok cn
  obtain ⟨N, hN⟩ : ∃ N : Nat, n = N := ⟨n.toNat, by omega⟩
  subst hN
  simp
  refine ⟨_, _, .inl (by simpa using h13 _), by simp, ?_⟩
  by_cases o1 : fr < 0
  · have : outN N fr = true ∨ outN N to = true := by simp [outN, o1]
    simp [this, o1]
  by_cases o2 : (N : Int) ≤ fr
  · have : outN N fr = true ∨ outN N to = true := by simp [outN, o2]
    simp [this, o1, o2]
  by_cases o3 : to < 0
  · have : outN N fr = true ∨ outN N to = true := by simp [outN, o3]
    simp [this, o1, o2, o3]
  by_cases o4 : (N : Int) ≤ to
  · have : outN N fr = true ∨ outN N to = true := by simp [outN, o4]
    simp [this, o1, o2, o3, o4]
  have ho1 : outN N fr = false := by simp [outN, o1, o2]
  have ho2 : outN N to = false := by simp [outN, o3, o4]
  have hlk : ∀ x ∈ l, okLk N x := fun x hx => (link_ok (lko x hx)).1
  have hf := firstW_ok (n := N) (fr := fr) (by omega) (by omega) c
  simp only [Int.toNat_natCast]
  obtain ⟨A0, hA⟩ : ∃ A0, A0 = if hasB c.Avoid fr = true then [] else [firstW fr c] := ⟨_, rfl⟩
  rw [← hA]
  have hA0 : okNx N c.Thru.length 0 A0 := by
    rw [hA]
    split
    · exact okNx_nil _ _ _
    · refine ⟨fun w hw => ?_, by simp⟩
      rw [List.mem_singleton] at hw
      subst hw
      exact hf
  have hlen := loopR_len hlk (to := to) (sz := N * (c.Thru.length + 1)) (N * (c.Thru.length + 1) + 1) 0 A0 none hA0 (by simp)
  have hs1 : N * (c.Thru.length + 1) ≤ 128 * 65 := Nat.mul_le_mul (by omega) (by omega)
  have co := fun Q' hQ' s' hs' => c16o l m hm (by omega) c p hp hp2 N (by omega) c.Thru.length rfl (by omega) hlk to A0 hA0 _ rfl Q' hQ' _ rfl s' hs'
  rw [hq] at hlen hs1 co
  rw [hq]
  generalize loopR l c to (N * (q + 1)) (N * (q + 1) + 1) 0 A0 none = R at *
  have fw : encW (firstW fr c) = .agg [.sl 1 [.int .i64 fr] .sh, .int .i64 0, .int .i64 (if c.Thru[0]? = some fr then 1 else 0)] := by
    simp only [encW, ceW, firstW]; congr 4; split <;> rfl
  by_cases a1 : hasB c.Avoid fr = true
  · rw [a1] at h25
    rw [if_pos a1] at hA
    by_cases q0 : q = 0
    · simp [o1, o2, o3, o4, hq, q0]
      refine ⟨_, _, .inl (by simpa using h25 _), by simp, ?_⟩
      simp
      refine co _ (fun u b hu hb => ?_) _ ?_
      · simp only [holds, List.mem_cons, List.not_mem_nil, or_false, forall_eq_or_imp, forall_eq] at hu
        obtain ⟨u0, u1⟩ := hu
        subst hb
        cases b with
        | none => simp [u0, u1, bC, ho1, ho2]
        | some w =>
          have hw := hlen w rfl
          have h35 := fun H => (c35 w.N w.N.length rfl (by omega)).up' H rfl rfl
          by_cases hr : repB w.N = true
          · rw [hr] at h35
            simp [u0, u1, bC, ceW]
            refine ⟨_, _, .inl (by simpa using h35 _), by simp, ?_⟩
            simp [hr, ho1, ho2]
          · have hr' : repB w.N = false := by simpa using hr
            rw [hr'] at h35
            simp [u0, u1, bC, ceW]
            refine ⟨_, _, .inl (by simpa using h35 _), by simp, ?_⟩
            simp [hr', u0, u1, ho1, ho2]
      · simp [slO, hA, bC, hm]
    obtain ⟨y, hy⟩ : ∃ y, c.Thru[0]? = some y := ⟨_, List.getElem?_eq_getElem (by omega)⟩
    have q1 : 0 < q := by omega
    by_cases e : y = fr
    · subst e
      simp [o1, o2, o3, o4, hq, q0, q1, hy, gE hy]
      refine ⟨_, _, .inl (by simpa using h25 _), by simp, ?_⟩
      simp
      refine co _ (fun u b hu hb => ?_) _ ?_
      · simp only [holds, List.mem_cons, List.not_mem_nil, or_false, forall_eq_or_imp, forall_eq] at hu
        obtain ⟨u0, u1⟩ := hu
        subst hb
        cases b with
        | none => simp [u0, u1, bC, ho1, ho2]
        | some w =>
          have hw := hlen w rfl
          have h35 := fun H => (c35 w.N w.N.length rfl (by omega)).up' H rfl rfl
          by_cases hr : repB w.N = true
          · rw [hr] at h35
            simp [u0, u1, bC, ceW]
            refine ⟨_, _, .inl (by simpa using h35 _), by simp, ?_⟩
            simp [hr, ho1, ho2]
          · have hr' : repB w.N = false := by simpa using hr
            rw [hr'] at h35
            simp [u0, u1, bC, ceW]
            refine ⟨_, _, .inl (by simpa using h35 _), by simp, ?_⟩
            simp [hr', u0, u1, ho1, ho2]
      · simp [slO, hA, bC, hm]
    · simp [o1, o2, o3, o4, hq, q0, q1, hy, gE hy, e]
      refine ⟨_, _, .inl (by simpa using h25 _), by simp, ?_⟩
      simp
      refine co _ (fun u b hu hb => ?_) _ ?_
      · simp only [holds, List.mem_cons, List.not_mem_nil, or_false, forall_eq_or_imp, forall_eq] at hu
        obtain ⟨u0, u1⟩ := hu
        subst hb
        cases b with
        | none => simp [u0, u1, bC, ho1, ho2]
        | some w =>
          have hw := hlen w rfl
          have h35 := fun H => (c35 w.N w.N.length rfl (by omega)).up' H rfl rfl
          by_cases hr : repB w.N = true
          · rw [hr] at h35
            simp [u0, u1, bC, ceW]
            refine ⟨_, _, .inl (by simpa using h35 _), by simp, ?_⟩
            simp [hr, ho1, ho2]
          · have hr' : repB w.N = false := by simpa using hr
            rw [hr'] at h35
            simp [u0, u1, bC, ceW]
            refine ⟨_, _, .inl (by simpa using h35 _), by simp, ?_⟩
            simp [hr', u0, u1, ho1, ho2]
      · simp [slO, hA, bC, hm]
  · have a1' : hasB c.Avoid fr = false := by simpa using a1
    rw [a1'] at h25
    rw [if_neg a1] at hA
    by_cases q0 : q = 0
    · have e0 : ¬ c.Thru[0]? = some fr := by rw [List.getElem?_eq_none (by omega)]; simp
      rw [if_neg e0] at fw
      simp [o1, o2, o3, o4, hq, q0]
      refine ⟨_, _, .inl (by simpa using h25 _), by simp, ?_⟩
      simp
      refine LoopK.deep 15 (by decide) 3 _ [encW (firstW fr c)] .full (by simp [e0]; rfl) (by simp [ceW, firstW, e0, All2, LeC]) ?_
      refine co _ (fun u b hu hb => ?_) _ ?_
      · simp only [holds, List.mem_cons, List.not_mem_nil, or_false, forall_eq_or_imp, forall_eq] at hu
        obtain ⟨u0, u1⟩ := hu
        subst hb
        cases b with
        | none => simp [u0, u1, bC, ho1, ho2]
        | some w =>
          have hw := hlen w rfl
          have h35 := fun H => (c35 w.N w.N.length rfl (by omega)).up' H rfl rfl
          by_cases hr : repB w.N = true
          · rw [hr] at h35
            simp [u0, u1, bC, ceW]
            refine ⟨_, _, .inl (by simpa using h35 _), by simp, ?_⟩
            simp [hr, ho1, ho2]
          · have hr' : repB w.N = false := by simpa using hr
            rw [hr'] at h35
            simp [u0, u1, bC, ceW]
            refine ⟨_, _, .inl (by simpa using h35 _), by simp, ?_⟩
            simp [hr', u0, u1, ho1, ho2]
      · simp [slO, hA, bC, ceW, firstW, e0]
    obtain ⟨y, hy⟩ : ∃ y, c.Thru[0]? = some y := ⟨_, List.getElem?_eq_getElem (by omega)⟩
    have q1 : 0 < q := by omega
    by_cases e : y = fr
    · subst e
      rw [if_pos hy] at fw
      simp [o1, o2, o3, o4, hq, q0, q1, hy, gE hy]
      refine ⟨_, _, .inl (by simpa using h25 _), by simp, ?_⟩
      simp
      refine LoopK.deep 15 (by decide) 3 _ [encW (firstW y c)] .full (by simp [hy]; rfl) (by simp [ceW, firstW, hy, All2, LeC]) ?_
      refine co _ (fun u b hu hb => ?_) _ ?_
      · simp only [holds, List.mem_cons, List.not_mem_nil, or_false, forall_eq_or_imp, forall_eq] at hu
        obtain ⟨u0, u1⟩ := hu
        subst hb
        cases b with
        | none => simp [u0, u1, bC, ho1, ho2]
        | some w =>
          have hw := hlen w rfl
          have h35 := fun H => (c35 w.N w.N.length rfl (by omega)).up' H rfl rfl
          by_cases hr : repB w.N = true
          · rw [hr] at h35
            simp [u0, u1, bC, ceW]
            refine ⟨_, _, .inl (by simpa using h35 _), by simp, ?_⟩
            simp [hr, ho1, ho2]
          · have hr' : repB w.N = false := by simpa using hr
            rw [hr'] at h35
            simp [u0, u1, bC, ceW]
            refine ⟨_, _, .inl (by simpa using h35 _), by simp, ?_⟩
            simp [hr', u0, u1, ho1, ho2]
      · simp [slO, hA, bC, ceW, firstW, hy]
    · have e0 : ¬ c.Thru[0]? = some fr := by rw [hy]; simpa using e
      rw [if_neg e0] at fw
      simp [o1, o2, o3, o4, hq, q0, q1, hy, gE hy, e]
      refine ⟨_, _, .inl (by simpa using h25 _), by simp, ?_⟩
      simp
      refine LoopK.deep 15 (by decide) 3 _ [encW (firstW fr c)] .full (by simp [e0]; rfl) (by simp [ceW, firstW, e0, All2, LeC]) ?_
      refine co _ (fun u b hu hb => ?_) _ ?_
      · simp only [holds, List.mem_cons, List.not_mem_nil, or_false, forall_eq_or_imp, forall_eq] at hu
        obtain ⟨u0, u1⟩ := hu
        subst hb
        cases b with
        | none => simp [u0, u1, bC, ho1, ho2]
        | some w =>
          have hw := hlen w rfl
          have h35 := fun H => (c35 w.N w.N.length rfl (by omega)).up' H rfl rfl
          by_cases hr : repB w.N = true
          · rw [hr] at h35
            simp [u0, u1, bC, ceW]
            refine ⟨_, _, .inl (by simpa using h35 _), by simp, ?_⟩
            simp [hr, ho1, ho2]
          · have hr' : repB w.N = false := by simpa using hr
            rw [hr'] at h35
            simp [u0, u1, bC, ceW]
            refine ⟨_, _, .inl (by simpa using h35 _), by simp, ?_⟩
            simp [hr', u0, u1, ho1, ho2]
      · simp [slO, hA, bC, ceW, firstW, e0]
end Go.Proofs.Ytgcnlmcpmocbhaa

/- The law of routes, by the program. -/
namespace Go.Proofs.Ytgcnlmcpmocbhaa
open Go Go.Am Go.Wk

theorem refN_len (n : Int) (l : List Lnk) (fr to : Int) (c : Con) : (refN n l fr to c).1.length ≤ 128 * 65 := by
  unfold refN
  by_cases g1 : checkE n l c = 0
  case neg => rw [if_pos g1]; simp
  rw [if_neg (by simpa using g1)]
  by_cases g2 : (outN n fr || outN n to) = true
  · rw [if_pos g2]; simp
  rw [if_neg g2]
  obtain ⟨n1, n2, l2, lk, cn⟩ := check_links g1
  obtain ⟨asc, _, lko⟩ := links_asc lk
  obtain ⟨c1, c2, c3, _⟩ := con_ok cn
  obtain ⟨N, hN⟩ : ∃ N : Nat, n = N := ⟨n.toNat, by omega⟩
  subst hN
  simp only [Bool.or_eq_true, not_or, Bool.not_eq_true] at g2
  obtain ⟨f1, f2⟩ := out_false g2.1
  have hlk : ∀ x ∈ l, okLk N x := fun x hx => (link_ok (lko x hx)).1
  have hf := firstW_ok (n := N) (fr := fr) (by omega) (by omega) c
  have hA0 : okNx N c.Thru.length 0 (if hasB c.Avoid fr = true then [] else [firstW fr c]) := by
    split
    · exact okNx_nil _ _ _
    · refine ⟨fun w hw => ?_, by simp⟩
      rw [List.mem_singleton] at hw
      subst hw
      exact hf
  rw [Int.toNat_natCast]
  have hlen := loopR_len hlk (to := to) (sz := N * (c.Thru.length + 1)) (N * (c.Thru.length + 1) + 1) 0 _ none hA0 (by simp)
  have hs1 : N * (c.Thru.length + 1) ≤ 128 * 65 := Nat.mul_le_mul (by omega) (by omega)
  generalize loopR l c to (N * (c.Thru.length + 1)) (N * (c.Thru.length + 1) + 1) 0 _ none = R at *
  cases R with
  | none => simp
  | some w =>
    have := hlen w rfl
    simp only
    split
    · simp
    · simp only; omega
theorem routeN_len (n : Int) (l : List Lnk) (fr to : Int) (c : Con) : (routeN n l fr to c).1.length ≤ 128 * 65 := by rw [routeN_ref]; exact refN_len n l fr to c
def largeB (n : Int) (l : List Lnk) (c : Con) : Bool := decide (9 < n) || decide (50 < l.length) || decide (5 < c.Avoid.length) || decide (3 < c.Thru.length)
set_option maxHeartbeats 4000000 in
set_option maxRecDepth 10000 in
theorem c14 (n : Int) (l : List Lnk) (m : Nat) (hm : l.length = m) (c : Con) (p q : Nat) (hp : c.Avoid.length = p) (hq : c.Thru.length = q) :
    CFun Try.prog 14 [.int .i64 n, .sl 13 (l.map encL) .sh, encC c] [] (.bool (largeB n l c)) [] := by
  refine CFun.intro (tr := []) (fz := []) (n := 26) (rs := [.tmp 6]) Try.func14 rfl (by kernel_rfl) rfl rfl mixed (by kernel_rfl) (by simp) (by simp) ?_
  unfold largeB
  by_cases b1 : 9 < n
  · simp [b1]
  by_cases b2 : 50 < m
  · have b2' : (50 : Int) < m := by omega
    simp [hm, b1, b2, b2']
  have b2' : ¬ (50 : Int) < m := by omega
  by_cases b3 : 5 < p
  · have b3' : (5 : Int) < p := by omega
    simp [hm, hp, b1, b2, b2', b3, b3']
  have b3' : ¬ (5 : Int) < p := by omega
  by_cases b4 : 3 < q
  · have b4' : (3 : Int) < q := by omega
    simp [hm, hp, hq, b1, b2, b2', b3, b3', b4, b4']
  have b4' : ¬ (3 : Int) < q := by omega
  simp [hm, hp, hq, b1, b2, b2', b3, b3', b4, b4']
set_option maxHeartbeats 4000000 in
set_option maxRecDepth 10000 in
theorem c4 (n : Int) (l : List Lnk) (m : Nat) (hm : l.length = m) (hm2 : m < 9223372036854775807) (fr to : Int) (c : Con) (p q : Nat) (hp : c.Avoid.length = p) (hq : c.Thru.length = q) (hp2 : p < 9223372036854775807) (hq2 : q < 9223372036854775807) :
    CFun Try.prog 4 [.int .i64 n, .sl 13 (l.map encL) .sh, .int .i64 fr, .int .i64 to, encC c] [] (.bool true) [] := by
  refine CFun.intro (tr := []) (fz := []) (n := 58) (rs := [.tmp 10]) Try.func4 rfl (by kernel_rfl) rfl rfl mixed (by kernel_rfl) (by simp) (by simp) ?_
  have h11 := fun H => c11.up' H rfl rfl
  have h14 := fun H => (c14 n l m hm c p q hp hq).up' H (by simp [noid, noid0]) rfl
  have h15 := fun H => (c15 l m hm hm2 c p q hp hq hp2 hq2 n fr to).up' H (by simp [noid, noid0]) rfl
  have h16 := fun H => (c16 l m hm hm2 c p q hp hq hp2 hq2 n fr to).up' H (by simp [noid, noid0]) rfl
  rw [routeN_ref] at h15
  have hl := refN_len n l fr to c
  generalize refN n l fr to c = R at *
  have h17 := fun H => (c17 R.1 R.1 _ _ rfl rfl (by omega) (by omega)).up' H rfl rfl
  by_cases b : largeB n l c = true
  · rw [b] at h14
    simp
    refine ⟨_, _, .inl (by simpa using h14 _), by simp, ?_⟩
    simp
    refine ⟨_, _, .inl (by simpa using h11 _), by simp, ?_⟩
    simp
  have b' : largeB n l c = false := by simpa using b
  rw [b'] at h14
  simp
  refine ⟨_, _, .inl (by simpa using h14 _), by simp, ?_⟩
  simp
  refine ⟨_, _, .inl (by simpa using h15 _), by simp, ?_⟩
  simp
  refine ⟨_, _, .inl (by simpa using h16 _), by simp, ?_⟩
  simp
  refine ⟨_, _, .inl (by simpa using h11 _), by simp, ?_⟩
  simp
  refine ⟨_, _, .inl (by simpa using h17 _), by simp, ?_⟩
  simp
end Go.Proofs.Ytgcnlmcpmocbhaa

/- The routes that are found: what they are. No program. -/
namespace Go.Proofs.Ytgcnlmcpmocbhaa
open Go Go.Am Go.Wk

theorem repI_iff (l : List Int) : ∀ k, k ≤ l.length → (repI l l.length k = true ↔ ∃ i, l.length - k ≤ i ∧ i < l.length ∧ l.getD i 0 ∈ l.take i) := by
  intro k
  induction k with
  | zero =>
    intro _
    simp only [repI]
    constructor
    · intro h; cases h
    · rintro ⟨i, h1, h2, _⟩; omega
  | succ k ih =>
    intro hk
    have ih := ih (by omega)
    simp only [repI]
    by_cases h : hasB (l.take (l.length - (k + 1))) (l.getD (l.length - (k + 1)) 0) = true
    · rw [if_pos h]
      rw [hasB_iff] at h
      exact ⟨fun _ => ⟨_, Nat.le_refl _, by omega, h⟩, fun _ => rfl⟩
    · rw [if_neg h, ih]
      rw [hasB_iff] at h
      constructor
      · rintro ⟨i, h1, h2, h3⟩; exact ⟨i, by omega, h2, h3⟩
      · rintro ⟨i, h1, h2, h3⟩
        refine ⟨i, ?_, h2, h3⟩
        by_cases e : i = l.length - (k + 1)
        · subst e; exact absurd h3 h
        · omega
theorem repB_iff (l : List Int) : repB l = true ↔ ¬ l.Nodup := by
  unfold repB
  rw [repI_iff l _ (Nat.le_refl _), Nat.sub_self]
  unfold List.Nodup
  rw [List.pairwise_iff_getElem]
  constructor
  · rintro ⟨i, _, h2, h3⟩ h
    obtain ⟨j, hj, he⟩ := List.getElem_of_mem h3
    simp only [List.length_take] at hj
    have := h j i (by omega) h2 (by omega)
    rw [List.getElem_take] at he
    rw [he, List.getD_eq_getElem?_getD, List.getElem?_eq_getElem h2] at this
    exact this rfl
  · intro h
    simp only [ne_eq, Classical.not_forall, Decidable.not_not] at h
    obtain ⟨i, j, h0, h2, h1, h3⟩ := h
    refine ⟨j, Nat.zero_le _, h2, ?_⟩
    rw [List.mem_iff_getElem?]
    refine ⟨i, ?_⟩
    rw [List.getElem?_take_of_lt h1, List.getElem?_eq_getElem h0, h3, List.getD_eq_getElem?_getD, List.getElem?_eq_getElem h2]
    rfl
theorem repB_false {l : List Int} (h : l.Nodup) : repB l = false := by
  cases hr : repB l with
  | false => rfl
  | true => exact absurd h ((repB_iff l).1 hr)
/-- The links that may be used; the first state; the last one. -/
def usL (l : List Lnk) (c : Con) : List Lnk := l.filter fun x => usableN x c
def stF (n : Nat) (fr : Int) (c : Con) : Nat := entN c.Thru n fr.toNat 0
def stT (n : Nat) (to : Int) (c : Con) : Nat := c.Thru.length * n + to.toNat
def ndS (n : Nat) (fr : Int) (ys : List Nat) : List Int := fr :: ys.map (fun s => ((s % n : Nat) : Int))
theorem routeN_cases {N : Nat} {l : List Lnk} {fr to : Int} {c : Con} (g1 : checkE N l c = 0) (h1 : outN N fr = false) (h2 : outN N to = false) (h3 : hasB c.Avoid fr = false) :
    (routeN N l fr to c = ([], 0, 20) ∧ ∀ ys d, W (arcsN (usL l c) c.Thru N) (stF N fr c) ys d (stT N to c) → ¬ limH c.Hops ys.length) ∨
    ∃ ys d, Best (arcsN (usL l c) c.Thru N) (· % N) (limH c.Hops) (stF N fr c) (stT N to c) ys d ∧ routeN N l fr to c = if repB (ndS N fr ys) = true then ([], 0, 10) else (ndS N fr ys, (d : Int), 0) := by
  obtain ⟨n1, n2, l2, lk, cn⟩ := check_links g1
  obtain ⟨asc, _, lko⟩ := links_asc lk
  obtain ⟨c1, c2, c3, _⟩ := con_ok cn
  obtain ⟨f1, f2⟩ := out_false h1
  have hls : ∀ x ∈ l, okLk N x := fun x hx => (link_ok (lko x hx)).1
  have hw := walkN_best (ls := usL l c) (th := c.Thru) (n := N) (t := to.toNat) (from_ := fr.toNat) (most := c.Hops) (by omega) (usk hls) (asc.filter _) f2 c1
  unfold routeN
  rw [if_neg (by simpa using g1), if_neg (by simp [h1, h2]), if_neg (by simp [h3]), Int.toNat_natCast]
  rw [show (l.filter fun x => usableN x c) = usL l c from rfl]
  generalize walkN (usL l c) c.Thru N to.toNat fr.toNat c.Hops = R at *
  cases R with
  | none => exact .inl ⟨rfl, hw⟩
  | some p =>
    obtain ⟨ys, d, hb, e1, e2⟩ := hw
    refine .inr ⟨ys, d, hb, ?_⟩
    rw [← f1] at e1
    simp only [e1, e2]
    rfl
theorem checkE_ne {n : Int} {l : List Lnk} {c : Con} : checkE n l c ≠ 10 := by
  have hl : ∀ (l : List Lnk) (p : Option Lnk), linksE n p l ≠ 10 := by
    intro l
    induction l with
    | nil => intro p; simp [linksE]
    | cons x l ih =>
      intro p
      simp only [linksE]
      have hx : linkE n x ≠ 10 := by unfold linkE; split; decide; split; decide; split; decide; split; decide; split <;> decide
      split
      · exact hx
      · split
        · decide
        · exact ih _
  unfold checkE
  split
  · decide
  split
  · decide
  split
  · exact hl _ _
  · unfold conE; split; decide; split; decide; split; decide; split <;> decide
/-- Without nodes to go through, a least walk has no node twice. -/
theorem best_nodup {N : Nat} {l : List Lnk} {fr to : Int} {c : Con} (hls : ∀ x ∈ l, okLk N x) (h1 : outN N fr = false) (ht : c.Thru = []) {ys : List Nat} {d : Nat} (hb : Best (arcsN (usL l c) c.Thru N) (· % N) (limH c.Hops) (stF N fr c) (stT N to c) ys d) : repB (ndS N fr ys) = false := by
  have hus := usk hls (c := c)
  have hE : ∀ a ∈ arcsN (usL l c) c.Thru N, 1 ≤ a.2.2 := fun a ha => (arcs_bound hus ha).2.2.1
  have hE2 : ∀ a ∈ arcsN (usL l c) c.Thru N, a.2.1 < N * (c.Thru.length + 1) := fun a ha => (arcs_bound hus ha).2.1
  obtain ⟨f1, f2⟩ := out_false h1
  have hs := hb.simple hE (limH_mono _)
  have e0 : stF N fr c = fr.toNat := by simp [stF, entN, entK, ht]
  have hy : ∀ y ∈ ys, y < N := fun y hy => by
    obtain ⟨u, a, hu⟩ := hb.w.mem hy
    have := hE2 _ hu
    rw [ht] at this
    simpa using this
  refine repB_false ?_
  have e1 : ndS N fr ys = (stF N fr c :: ys).map (fun s => ((s : Nat) : Int)) := by
    unfold ndS
    rw [List.map_cons, e0, ← f1]
    congr 1
    apply List.map_congr_left
    intro y h
    rw [Nat.mod_eq_of_lt (hy y h)]
  rw [e1]
  unfold List.Nodup at hs ⊢
  rw [List.pairwise_map]
  exact hs.imp fun h e => h (by exact_mod_cast e)
/-- A constraint that asks for less. -/
def lessC (c : Con) (b : Int) : Con := ⟨b, c.Setup, c.Hold, c.Incl, c.Excl, 0, [], c.Thru⟩
theorem less_law {N : Int} {l : List Lnk} {fr to : Int} {c : Con} (ht : c.Thru = []) {b : Int} (b0 : 0 ≤ c.Band → 0 ≤ b) (b1 : c.Band < 0 ∨ b ≤ c.Band) :
    ((routeN N l fr to c).2.2 ≠ 0 → (routeN N l fr to c).2.2 ≠ 10) ∧ ((routeN N l fr to c).2.2 = 0 → (routeN N l fr to (lessC c b)).2.2 = 0 ∧ (routeN N l fr to (lessC c b)).2.1 ≤ (routeN N l fr to c).2.1) := by
  by_cases g1 : checkE N l c = 0
  case neg =>
    have e : routeN N l fr to c = ([], 0, checkE N l c) := by unfold routeN; rw [if_pos g1]
    rw [e]
    exact ⟨fun _ => checkE_ne, fun h => absurd h g1⟩
  by_cases o : (outN N fr || outN N to) = true
  · have e : routeN N l fr to c = ([], 0, 5) := by unfold routeN; rw [if_neg (by simpa using g1), if_pos o]
    rw [e]
    exact ⟨fun _ => by decide, fun h => by simp at h⟩
  by_cases a : hasB c.Avoid fr = true
  · have e : routeN N l fr to c = ([], 0, 20) := by unfold routeN; rw [if_neg (by simpa using g1), if_neg o, if_pos a]
    rw [e]
    exact ⟨fun _ => by decide, fun h => by simp at h⟩
  have a' : hasB c.Avoid fr = false := by simpa using a
  simp only [Bool.or_eq_true, not_or, Bool.not_eq_true] at o
  obtain ⟨n1, n2, l2, lk, cn⟩ := check_links g1
  obtain ⟨asc, _, lko⟩ := links_asc lk
  obtain ⟨M, hM⟩ : ∃ M : Nat, N = M := ⟨N.toNat, by omega⟩
  subst hM
  have hls : ∀ x ∈ l, okLk M x := fun x hx => (link_ok (lko x hx)).1
  rcases routeN_cases g1 o.1 o.2 a' with ⟨e, _⟩ | ⟨ys, d, hb, e⟩
  · rw [e]
    exact ⟨fun _ => by decide, fun h => by simp at h⟩
  rw [best_nodup hls o.1 ht hb, if_neg (by simp)] at e
  rw [e]
  refine ⟨fun h => absurd rfl h, fun _ => ?_⟩
  have cn' : conE M (lessC c b) = 0 := by
    unfold conE at cn ⊢
    by_cases q1 : c.Band < 0 ∨ 1099511627776 < c.Band ∨ c.Setup < 0 ∨ 7 < c.Setup ∨ c.Hold < 0 ∨ 7 < c.Hold ∨ c.Hops < 0
    · rw [if_pos q1] at cn; cases cn
    rw [if_neg q1] at cn
    by_cases q2 : c.Setup < c.Hold
    · rw [if_pos q2] at cn; cases cn
    have b0' := b0 (by omega)
    have q1' : ¬ ((lessC c b).Band < 0 ∨ 1099511627776 < (lessC c b).Band ∨ (lessC c b).Setup < 0 ∨ 7 < (lessC c b).Setup ∨ (lessC c b).Hold < 0 ∨ 7 < (lessC c b).Hold ∨ (lessC c b).Hops < 0) := by
      simp only [lessC]; omega
    rw [if_neg q1', if_neg (show ¬ (lessC c b).Setup < (lessC c b).Hold from q2)]
    simp [lessC, ht]
  have g2 : checkE M l (lessC c b) = 0 := by
    unfold checkE
    rw [if_neg (by omega), if_neg (by omega), if_neg (by simpa using lk)]
    exact cn'
  have hW : W (arcsN (usL l (lessC c b)) (lessC c b).Thru M) (stF M fr (lessC c b)) ys d (stT M to (lessC c b)) := by
    refine hb.w.mono fun a ha => ?_
    obtain ⟨k, h1, x, h2, h3⟩ := arc_mem.1 ha
    refine arc_mem.2 ⟨k, h1, x, ?_, h3⟩
    obtain ⟨m1, m2⟩ := List.mem_filter.1 h2
    refine List.mem_filter.2 ⟨m1, ?_⟩
    have hs : ¬ (c.Setup < 0 ∨ 7 < c.Setup) := by
      intro q; rw [usable_1 q] at m2; cases m2
    obtain ⟨i, hi⟩ : ∃ i : Nat, c.Setup = i := ⟨c.Setup.toNat, by omega⟩
    have hi8 : i < 8 := by omega
    have hbd : ¬ x.Fr i < c.Band := by
      intro q; rw [usable_2 hi hi8 q] at m2; cases m2
    have hbn : 0 ≤ c.Band := (con_ok cn).2.2.2.2.2
    show usableN x (lessC c b) = true
    rw [usable_3 hi hi8 hbd] at m2
    rw [usable_3 (c := lessC c b) hi hi8 (by show ¬ x.Fr i < b; omega)]
    show (if andW c.Excl x.Aff ≠ 0 then false else if c.Incl ≠ 0 ∧ andW c.Incl x.Aff = 0 then false else !hasB [] x.From && !hasB [] x.To) = true
    split at m2
    · cases m2
    · rename_i q1
      rw [if_neg q1]
      split at m2
      · cases m2
      · rename_i q2
        rw [if_neg q2]
        rfl
  have hl0 : limH (lessC c b).Hops ys.length := .inl rfl
  rcases routeN_cases (c := lessC c b) g2 o.1 o.2 rfl with ⟨_, h⟩ | ⟨zs, d', hb', e'⟩
  · exact absurd hl0 (h _ _ hW)
  · rw [best_nodup (c := lessC c b) hls o.1 ht hb', if_neg (by simp)] at e'
    rw [e']
    refine ⟨rfl, ?_⟩
    rcases hb'.le _ _ hW hl0 with h | ⟨h, _⟩
    · simp only; omega
    · simp only; omega
end Go.Proofs.Ytgcnlmcpmocbhaa

/- Paths that fit are walks of states, and the other way round. No program. -/
namespace Go.Proofs.Ytgcnlmcpmocbhaa
open Go Go.Am Go.Wk

def costN (l : List Lnk) : Int → List Int → Int
  | _, [] => 0
  | a, x :: xs => (findL l a x).1.Cost + costN l x xs
def costP (l : List Lnk) : List Int → Int
  | [] => 0
  | a :: xs => costN l a xs
def endN : Int → List Int → Int
  | a, [] => a
  | _, x :: xs => endN x xs
theorem endN_last : ∀ (a : Int) (xs : List Int), (a :: xs)[xs.length]? = some (endN a xs)
  | a, [] => rfl
  | a, x :: xs => by simpa [endN] using endN_last x xs
theorem findL_of {l : List Lnk} (hs : l.Pairwise fun x y => x.From < y.From ∨ x.From = y.From ∧ x.To < y.To) {x : Lnk} (hx : x ∈ l) : findL l x.From x.To = (x, true) := by
  unfold findL
  cases hf : l.find? (isL x.From x.To) with
  | none => exact absurd (List.find?_eq_none.1 hf x hx) (by simp [isL])
  | some z =>
    have hz := List.find?_some hf
    simp only [isL, Bool.and_eq_true, decide_eq_true_eq] at hz
    have := find_least hs hf x hx (by simp [isL])
    rcases this with rfl | h1
    · rfl
    · omega
theorem findL_mem {l : List Lnk} {a b : Int} (h : (findL l a b).2 = true) : (findL l a b).1 ∈ l ∧ (findL l a b).1.From = a ∧ (findL l a b).1.To = b := by
  unfold findL at h ⊢
  cases hf : l.find? (isL a b) with
  | none => rw [hf] at h; cases h
  | some z =>
    have hz := List.find?_some hf
    simp only [isL, Bool.and_eq_true, decide_eq_true_eq] at hz
    exact ⟨List.mem_of_find?_eq_some hf, hz.1, hz.2⟩
section
variable {l : List Lnk} {M : Nat} {c : Con} (hls : ∀ x ∈ l, okLk M x) (hs : l.Pairwise fun x y => x.From < y.From ∨ x.From = y.From ∧ x.To < y.To)
include hls
theorem goR_walk : ∀ (xs : List Int) (s : Nat), s / M ≤ c.Thru.length → goR l c (some ((s % M : Nat) : Int)) (s / M) xs = true →
    ∃ ys d z, W (arcsN (usL l c) c.Thru M) s ys d z ∧ ndI (ys.map (· % M)) = xs ∧ (d : Int) = costN l ((s % M : Nat) : Int) xs ∧ z / M = c.Thru.length ∧ ((z % M : Nat) : Int) = endN ((s % M : Nat) : Int) xs := by
  intro xs
  induction xs with
  | nil =>
    intro s hk h
    simp only [goR, decide_eq_true_eq] at h
    exact ⟨[], 0, s, .nil _, rfl, rfl, h, rfl⟩
  | cons x xs ih =>
    intro s hk h
    simp only [goR] at h
    split at h
    · cases h
    split at h
    · cases h
    rename_i ha hb
    simp only [Bool.not_eq_true, Bool.not_eq_false', Bool.and_eq_true] at hb
    obtain ⟨m1, m2, m3⟩ := findL_mem hb.1
    have hu := hb.2
    generalize hlk : (findL l ((s % M : Nat) : Int) x).1 = lk at *
    obtain ⟨o1, o2, o3, o4, o5, o6⟩ := hls lk m1
    have hmu : lk ∈ usL l c := List.mem_filter.2 ⟨m1, hu⟩
    have harc := arc_of (th := c.Thru) hk hmu (show lk.From.toNat = s % M by omega)
    have hto : lk.To.toNat < M := by omega
    have e1 := ent_div (th := c.Thru) (k := s / M) hto
    have e2 := ent_mod (th := c.Thru) (k := s / M) hto
    have e3 : ((entN c.Thru M lk.To.toNat (s / M) % M : Nat) : Int) = x := by rw [e2]; omega
    have e4 : (if c.Thru[s / M]? = some x then s / M + 1 else s / M) = entN c.Thru M lk.To.toNat (s / M) / M := by
      rw [e1]; unfold entK
      have : ((lk.To.toNat : Nat) : Int) = x := by omega
      rw [this]
    rw [e4, ← e3] at h
    obtain ⟨ys, d, z, w1, w2, w3, w4, w5⟩ := ih _ (by rw [e1]; exact entK_len hk) h
    refine ⟨_ :: ys, lk.Cost.toNat + d, z, .cons harc w1, ?_, ?_, w4, ?_⟩
    · simp only [ndI, List.map_cons] at w2 ⊢
      rw [w2, e3]
    · simp only [costN, hlk]
      rw [e3] at w3
      rw [← w3]
      omega
    · simp only [endN]
      rw [e3] at w5
      exact w5
include hs
theorem walk_goR {s z d : Nat} {ys : List Nat} (h : W (arcsN (usL l c) c.Thru M) s ys d z) (hz : z / M = c.Thru.length) : goR l c (some ((s % M : Nat) : Int)) (s / M) (ndI (ys.map (· % M))) = true ∧ (d : Int) = costN l ((s % M : Nat) : Int) (ndI (ys.map (· % M))) ∧ ((z % M : Nat) : Int) = endN ((s % M : Nat) : Int) (ndI (ys.map (· % M))) := by
  induction h with
  | nil x => exact ⟨by simp [ndI, goR, hz], rfl, rfl⟩
  | @cons x y z' a ys' d' he hw ih =>
    obtain ⟨i1, i2, i3⟩ := ih hz
    have hus := usk hls (c := c)
    obtain ⟨hk, lk, q1, q2, q3, q4, q5, q6, q7⟩ := arc_inv (ls := usL l c) hus he
    obtain ⟨m1, m2⟩ := List.mem_filter.1 q1
    have hf := findL_of hs m1
    rw [q5, q6] at hf
    have hto : lk.To.toNat = y % M := by omega
    have ey := ent_div (th := c.Thru) (k := x / M) q7
    rw [← q3] at ey
    have e4 : (if c.Thru[x / M]? = some ((y % M : Nat) : Int) then x / M + 1 else x / M) = y / M := by
      rw [ey]; unfold entK; rw [hto]
    have hav : hasB c.Avoid ((y % M : Nat) : Int) = false := by
      rw [← q6]
      have hst : ¬ (c.Setup < 0 ∨ 7 < c.Setup) := fun q => by rw [usable_1 q] at m2; cases m2
      obtain ⟨i, hi⟩ : ∃ i : Nat, c.Setup = i := ⟨c.Setup.toNat, by omega⟩
      have hi8 : i < 8 := by omega
      have hbd : ¬ lk.Fr i < c.Band := fun q => by rw [usable_2 hi hi8 q] at m2; cases m2
      rw [usable_3 hi hi8 hbd] at m2
      split at m2
      · cases m2
      · split at m2
        · cases m2
        · simp only [Bool.and_eq_true, Bool.not_eq_true'] at m2
          exact m2.2
    simp only [ndI, List.map_cons] at i1 i2 i3 ⊢
    refine ⟨?_, ?_, ?_⟩
    · simp only [goR, hav, hf, m2, e4]
      simpa using i1
    · simp only [costN, hf]
      rw [← i2, ← q4]
      push_cast
      rfl
    · simp only [endN]
      exact i3
end
end Go.Proofs.Ytgcnlmcpmocbhaa
