import Derived.Test.YtmgkemffbmfmpaaGreatZK2
set_option linter.unusedSimpArgs false
set_option linter.unusedVariables false
namespace Go.Proofs.YtmgkemffbmfmpaaGreat
open Go Go.Am

/-- Code in two halves, and what is known between them. -/
theorem SWp_cut {P : Program} {tr : List Nat} {n m : Nat} {a b : Code} {Q : APost} {s : ASt} (hmx : P.follows .mixedOrders = true) (hg : good tr n a = true) (l : List (Nat × AVal)) (H : List (List AVal))
    (h1 : awp P tr n m a (thenK (fun s1 => Le m s1 l H) Q) s) (h2 : SWp P n m b Q ⟨Am.look l, H⟩) : SWp P n m (a.seq b) Q s := by
  intro G0 w0 G x w hR
  refine wp_seq (wp_mono (awp_sound hmx a _ s hg h1 G0 w0 G x w hR) ?_)
  intro e a' w' he
  cases e with
  | normal => obtain ⟨s', G', hR', hk⟩ := he; exact h2 G0 w0 G' a' w' (hR'.weaken (Le.st hk))
  | exit id => exact he
  | ret => exact he
  | goto l => exact he
  | panic c => exact he
  | outgrown => exact he
theorem SWp_of {P : Program} {tr : List Nat} {n m : Nat} {a : Code} {Q : APost} {s : ASt} (hmx : P.follows .mixedOrders = true) (hg : good tr n a = true) (h : awp P tr n m a Q s) : SWp P n m a Q s := awp_sound hmx a Q s hg h
theorem hel_iff (h : Hel) : decide (h = hel0) = (decide (h.Len = 0) && decide (h.Hello = 0) && decide (h.Dead = 0) && decide (h.Pri = 0) && decide (h.DR = 0) && decide (h.BDR = 0) && decide (h.Seen = [])) := by
  rw [Bool.eq_iff_iff]
  cases h
  simp [hel0, and_assoc]
-- lspacket.foreign
set_option maxHeartbeats 8000000 in
set_option maxRecDepth 10000 in
theorem f52 (p : Pkt) : CFun Tryz.prog 34 [encPk p] [] (.bool (forP p)) [] := by
  refine CFun.introS (fz := []) (n := 109) (rs := [.tmp 2]) Tryz.func34 rfl (by kernel_rfl) rfl rfl (by simp) (by simp) ?_
  refine SWp_cut (tr := []) mixed (by kernel_rfl) [(1, .ptr 0 0)] [cellsPk p] (by simp) ?_
  refine SWp_cut (tr := []) mixed (by kernel_rfl) [(1, .ptr 0 0), (3, .ptr 1 0)] [cellsPk p, cellsE p.E] (by simp) ?_
  refine SWp_cut (tr := []) mixed (by kernel_rfl) [(1, .ptr 0 0), (4, .bool (!decide (p.E = hel0)))] [cellsPk p] ?_ ?_
  · rw [hel_iff]
    by_cases e1 : p.E.Len = 0
    case neg => simp [e1]
    by_cases e2 : p.E.Hello = 0
    case neg => simp [e1, e2]
    by_cases e3 : p.E.Dead = 0
    case neg => simp [e1, e2, e3]
    by_cases e4 : p.E.Pri = 0
    case neg => simp [e1, e2, e3, e4]
    by_cases e5 : p.E.DR = 0
    case neg => simp [e1, e2, e3, e4, e5]
    by_cases e6 : p.E.BDR = 0
    case neg => simp [e1, e2, e3, e4, e5, e6]
    by_cases e7 : p.E.Seen = []
    · simp [e1, e2, e3, e4, e5, e6, e7]
    · have e7' : 0 < p.E.Seen.length := List.length_pos_iff.2 e7
      simp [e1, e2, e3, e4, e5, e6, e7, e7']
  refine SWp_cut (tr := []) mixed (by kernel_rfl) [(1, .ptr 0 0), (4, .bool (!decide (p.E = hel0))), (5, .bool (decide (p.Seq ≠ 0) || p.Init || p.More || p.Master))] [cellsPk p] ?_ ?_
  · by_cases e1 : p.Seq = 0
    case neg => simp [e1]
    cases e2 : p.Init
    case true => simp [e1, e2]
    cases e3 : p.More
    case true => simp [e1, e2, e3]
    simp [e1, e2, e3]
  refine SWp_of (tr := []) mixed (by kernel_rfl) ?_
  have hf : forP p = ((decide (p.Kind ≠ 1) && !decide (p.E = hel0)) || (decide (p.Kind ≠ 2) && (decide (p.Seq ≠ 0) || p.Init || p.More || p.Master)) || (decide (p.Kind ≠ 3) && !decide (p.Keys = [])) || (decide (p.Kind ≠ 4) && !decide (p.Lsas = [])) ||
    (decide (p.Kind ≠ 2) && decide (p.Kind ≠ 5) && !decide (p.Heads = []))) := rfl
  rw [hf]
  clear hf
  generalize (!decide (p.E = hel0)) = A
  generalize (decide (p.Seq ≠ 0) || p.Init || p.More || p.Master) = B
  have hk : (0 < p.Keys.length) = ¬ (p.Keys = []) := propext List.length_pos_iff
  have hl : (0 < p.Lsas.length) = ¬ (p.Lsas = []) := propext List.length_pos_iff
  have hh : (0 < p.Heads.length) = ¬ (p.Heads = []) := propext List.length_pos_iff
  cases A <;> cases B <;> by_cases k1 : p.Kind = 1 <;> by_cases k2 : p.Kind = 2 <;> (try omega) <;> by_cases n3 : p.Keys = [] <;> by_cases n4 : p.Lsas = [] <;> by_cases n5 : p.Heads = [] <;> simp [k1, k2, n3, n4, n5, hk, hl, hh]
  all_goals
    by_cases k3 : p.Kind = 3 <;> by_cases k4 : p.Kind = 4 <;> by_cases k5 : p.Kind = 5 <;> (try omega) <;> simp_all
end Go.Proofs.YtmgkemffbmfmpaaGreat

namespace Go.Proofs.YtmgkemffbmfmpaaGreat
open Go Go.Am

-- routingref24.Headers
set_option maxHeartbeats 2000000 in
set_option maxRecDepth 10000 in
theorem f68 (l : List Hdr) (n : Nat) (hn : l.length = n) (hlen : n < 1099511627776000) (ok : ∀ x ∈ l, inW x.ID) : CFun Tryz.prog 54 [.sl 7 (l.map encH) .sh] [] (.int .i64 (listG chkH keyH l)) [] := by
  refine CFun.intro (tr := []) (fz := []) (n := 39) (rs := [.tmp 2]) Tryz.func54 rfl (by kernel_rfl) rfl rfl mixed (by kernel_rfl) (by simp) (by simp) ?_
  unfold listG
  by_cases h64 : 64 < n
  · have h64' : (64 : Int) < n := by omega
    simp [hn, h64, h64']
  have h64' : ¬ (64 : Int) < n := by omega
  simp [hn, h64, h64']
  refine LoopK.intro (tr := []) mixed (by kernel_rfl) (fun i : Nat => [(0, .sl 7 (l.map encH) .sh), (3, .int .i64 i)]) (fun _ => []) (fun i => i ≤ n ∧ rowsG chkH keyH none l = rowsG chkH keyH (prevG l i) (l.drop i)) (fun i => n - i) 0 ?_ ?_ ?_
  · simp [prevG]
  · simp
  · rintro i ⟨h1, h2⟩
    by_cases hi : i < n
    · obtain ⟨x, hx, hd⟩ := get_drop (l := l) (i := i) (by omega)
      rw [hd] at h2
      have w1 : IntKind.i64.wrap ((i : Int) + 1) = i + 1 := wrap_in (by omega)
      have hc := fun H => (c34 x (ok x (List.mem_of_getElem? hx))).up' H rfl rfl
      have hK := fun H => (c26 x).up' H rfl rfl
      simp only [rowsG] at h2
      clear hd
      simp [hi, hn, hx, gE hx]
      refine ⟨_, _, .inl (by simpa using hc _), by simp, ?_⟩
      by_cases e0 : chkH x = 0
      case neg =>
        rw [if_pos e0] at h2
        simp [e0, h2]
      rw [if_neg (by simpa using e0)] at h2
      cases i with
      | zero =>
        have w0 : IntKind.i64.wrap 1 = 1 := by decide
        simp only [prevG] at h2
        simp [e0, w0]
        exact ⟨1, ⟨by omega, by simpa [prevG, hx] using h2⟩, by omega, by simp⟩
      | succ j =>
        obtain ⟨q, hq, _⟩ := get_drop (l := l) (i := j) (by omega)
        simp only [prevG, hq] at h2
        have w2 : IntKind.i64.wrap (j : Int) = j := wrap_in (by omega)
        have h0 : (0 : Int) < ((j + 1 : Nat) : Int) := by omega
        have hjn : j < n := by omega
        have hKq := fun H => (c26 q).up' H rfl rfl
        have hC := fun H => (c28 (keyH q) (keyH x)).up' H rfl rfl
        generalize ekq : keyH q = kq at hKq hC h2
        generalize ekx : keyH x = kx at hK hC h2
        simp only [Int.natCast_add, Int.natCast_one] at w1 h0
        have hj0 : (0 : Int) ≤ (j : Int) + 1 := by omega
        simp [e0, w2, h0, hn, hq, gE hq, hjn, hx, gE hx, hi]
        refine ⟨_, _, .inl (by simpa using hKq _), by simp, ?_⟩
        simp [hn, hx, gE hx, hi, hj0]
        refine ⟨_, _, .inl (by simpa using hK _), by simp, ?_⟩
        simp
        refine ⟨_, _, .inl (by simpa using hC _), by simp, ?_⟩
        by_cases ho : 0 ≤ cmpY kq kx
        · simp [ho] at h2
          simp [ho, h2]
        · simp [ho] at h2
          have w3 : IntKind.i64.wrap ((j : Int) + 2) = j + 2 := wrap_in (by omega)
          simp [ho, w1, w3]
          exact ⟨j + 1 + 1, ⟨by omega, by simpa [prevG, hx] using h2⟩, by omega, by simp⟩
    · have e : l.drop i = [] := List.drop_of_length_le (by omega)
      rw [e] at h2
      simp [rowsG] at h2
      simp [hi, hn, h2]
-- routingref24.keys
set_option maxHeartbeats 2000000 in
set_option maxRecDepth 10000 in
theorem f66 (l : List LKey) (n : Nat) (hn : l.length = n) (hlen : n < 1099511627776000) : CFun Tryz.prog 52 [.sl 4 (l.map encY) .sh] [] (.int .i64 (listG chkY id l)) [] := by
  refine CFun.intro (tr := []) (fz := []) (n := 50) (rs := [.tmp 2]) Tryz.func52 rfl (by kernel_rfl) rfl rfl mixed (by kernel_rfl) (by simp) (by simp) ?_
  unfold listG
  by_cases h64 : 64 < n
  · have h64' : (64 : Int) < n := by omega
    simp [hn, h64, h64']
  have h64' : ¬ (64 : Int) < n := by omega
  simp [hn, h64, h64']
  refine LoopK.intro (tr := []) mixed (by kernel_rfl) (fun i : Nat => [(0, .sl 4 (l.map encY) .sh), (3, .int .i64 i)]) (fun _ => []) (fun i => i ≤ n ∧ rowsG chkY id none l = rowsG chkY id (prevG l i) (l.drop i)) (fun i => n - i) 0 ?_ ?_ ?_
  · simp [prevG]
  · simp
  · rintro i ⟨h1, h2⟩
    by_cases hi : i < n
    · obtain ⟨x, hx, hd⟩ := get_drop (l := l) (i := i) (by omega)
      rw [hd] at h2
      have w1 : IntKind.i64.wrap ((i : Int) + 1) = i + 1 := wrap_in (by omega)
      have c1 := fun H => (f63 x.Ty 1 5).up' H rfl rfl
      have c2 := fun H => (f63 x.Len 0 32).up' H rfl rfl
      have hY : chkY x = if inR x.Ty 1 5 = false then 15 else if x.Router = 0 ∨ inR x.Len 0 32 = false then 5 else 0 := rfl
      simp only [rowsG] at h2
      clear hd
      simp [hi, hn, hx, gE hx]
      refine ⟨_, _, .inl (by simpa using c1 _), by simp, ?_⟩
      cases e1 : inR x.Ty 1 5
      · rw [e1] at hY
        simp at hY
        rw [hY] at h2
        simp at h2
        simp [h2]
      rw [e1] at hY
      by_cases e2 : x.Router = 0
      · simp [e2] at hY
        rw [hY] at h2
        simp at h2
        simp [hi, hn, hx, gE hx, e2, h2]
      simp [hi, hn, hx, gE hx, e2]
      refine ⟨_, _, .inl (by simpa using c2 _), by simp, ?_⟩
      cases e3 : inR x.Len 0 32
      · rw [e3] at hY
        simp at hY
        rw [hY] at h2
        simp at h2
        simp [h2]
      rw [e3] at hY
      simp [e2] at hY
      rw [hY] at h2
      simp only [ne_eq, not_true, if_false] at h2
      cases i with
      | zero =>
        have w0 : IntKind.i64.wrap 1 = 1 := by decide
        simp only [prevG] at h2
        simp [w0]
        exact ⟨1, ⟨by omega, by simpa [prevG, hx] using h2⟩, by omega, by simp⟩
      | succ j =>
        obtain ⟨q, hq, _⟩ := get_drop (l := l) (i := j) (by omega)
        simp only [prevG, hq] at h2
        have w2 : IntKind.i64.wrap (j : Int) = j := wrap_in (by omega)
        have h0 : (0 : Int) < ((j + 1 : Nat) : Int) := by omega
        have hjn : j < n := by omega
        have hC := fun H => (c28 q x).up' H rfl rfl
        simp only [Int.natCast_add, Int.natCast_one] at w1 h0
        have hj0 : (0 : Int) ≤ (j : Int) + 1 := by omega
        simp [w2, h0, hn, hq, gE hq, hjn, hx, gE hx, hi, hj0]
        refine ⟨_, _, .inl (by simpa using hC _), by simp, ?_⟩
        by_cases ho : 0 ≤ cmpY q x
        · simp [ho] at h2
          simp [ho, h2]
        · simp [ho] at h2
          have w3 : IntKind.i64.wrap ((j : Int) + 2) = j + 2 := wrap_in (by omega)
          simp [ho, w1, w3]
          exact ⟨j + 1 + 1, ⟨by omega, by simpa [prevG, hx] using h2⟩, by omega, by simp⟩
    · have e : l.drop i = [] := List.drop_of_length_le (by omega)
      rw [e] at h2
      simp [rowsG] at h2
      simp [hi, hn, h2]
end Go.Proofs.YtmgkemffbmfmpaaGreat

namespace Go.Proofs.YtmgkemffbmfmpaaGreat
open Go Go.Am

-- lspacket.checkHello
set_option maxHeartbeats 2000000 in
set_option maxRecDepth 10000 in
theorem f53 (h : Hel) (n : Nat) (hn : h.Seen.length = n) (hlen : n < 140737488355328) : CFun Tryz.prog 35 [encE h] [] (.int .i64 (chkE h)) [] := by
  refine CFun.intro (tr := []) (fz := []) (n := 46) (rs := [.tmp 2]) Tryz.func35 rfl (by kernel_rfl) rfl rfl mixed (by kernel_rfl) (by simp) (by simp) ?_
  have h1 := fun H => (f51 h.Len 0 32).up' H rfl rfl
  have h2 := fun H => (f51 h.Hello 1 65535).up' H rfl rfl
  have h3 := fun H => (f51 h.Dead 1 65535).up' H rfl rfl
  have h4 := fun H => (f51 h.Pri 0 255).up' H rfl rfl
  unfold chkE
  simp
  refine ⟨_, _, .inl (by simpa using h1 _), by simp, ?_⟩
  cases inR h.Len 0 32
  · simp
  simp
  refine ⟨_, _, .inl (by simpa using h2 _), by simp, ?_⟩
  cases inR h.Hello 1 65535
  · simp
  simp
  refine ⟨_, _, .inl (by simpa using h3 _), by simp, ?_⟩
  cases inR h.Dead 1 65535
  · simp
  simp
  refine ⟨_, _, .inl (by simpa using h4 _), by simp, ?_⟩
  cases inR h.Pri 0 255
  · simp
  by_cases h64 : 64 < n
  · have h64' : (64 : Int) < n := by omega
    simp [hn, h64, h64']
  have h64' : ¬ (64 : Int) < n := by omega
  simp [hn, h64, h64']
  refine LoopK.intro (tr := []) mixed (by kernel_rfl) (fun i : Nat × Int => [(3, .int .u32 i.2), (35, .sl 1 (h.Seen.map enc32) .sh), (36, .int .i64 n), (37, .int .i64 i.1)]) (fun _ => []) (fun i => i.1 ≤ n ∧ seenE 0 h.Seen = seenE i.2 (h.Seen.drop i.1)) (fun i => n - i.1) (0, 0) ?_ ?_ ?_
  · simp
  · simp
  · rintro ⟨i, z⟩ ⟨k1, k2⟩
    simp only at k1 k2
    by_cases hi : i < n
    · obtain ⟨x, hx, hd⟩ := get_drop (l := h.Seen) (i := i) (by omega)
      rw [hd, seenE] at k2
      have w1 : IntKind.i64.wrap ((i : Int) + 1) = i + 1 := wrap_in (by omega)
      clear hd
      by_cases hb : x ≤ z
      · rw [if_pos hb] at k2
        simp [hi, hn, hx, gE hx, hb, k2]
      · rw [if_neg hb] at k2
        simp [hi, hn, hx, gE hx, hb, w1]
        exact ⟨i + 1, x, ⟨by omega, k2⟩, by omega, by simp⟩
    · have e : h.Seen.drop i = [] := List.drop_of_length_le (by omega)
      rw [e] at k2
      simp [seenE] at k2
      simp [hi, k2]
/-- As the reference goes. -/
def lastE (l : List Int) : Nat → Int
  | 0 => 0
  | i + 1 => l.getD i 0
-- routingref24.hello
set_option maxHeartbeats 2000000 in
set_option maxRecDepth 10000 in
theorem f65 (h : Hel) (n : Nat) (hn : h.Seen.length = n) (hlen : n < 140737488355328) (hw : ∀ x ∈ h.Seen, 0 ≤ x) : CFun Tryz.prog 51 [encE h] [] (.int .i64 (chkE h)) [] := by
  refine CFun.intro (tr := []) (fz := []) (n := 61) (rs := [.tmp 2]) Tryz.func51 rfl (by kernel_rfl) rfl rfl mixed (by kernel_rfl) (by simp) (by simp) ?_
  have h1 := fun H => (f63 h.Len 0 32).up' H rfl rfl
  have h2 := fun H => (f63 h.Hello 1 65535).up' H rfl rfl
  have h3 := fun H => (f63 h.Dead 1 65535).up' H rfl rfl
  have h4 := fun H => (f63 h.Pri 0 255).up' H rfl rfl
  unfold chkE
  simp
  refine ⟨_, _, .inl (by simpa using h1 _), by simp, ?_⟩
  cases inR h.Len 0 32
  · simp
  simp
  refine ⟨_, _, .inl (by simpa using h2 _), by simp, ?_⟩
  cases inR h.Hello 1 65535
  · simp
  simp
  refine ⟨_, _, .inl (by simpa using h3 _), by simp, ?_⟩
  cases inR h.Dead 1 65535
  · simp
  simp
  refine ⟨_, _, .inl (by simpa using h4 _), by simp, ?_⟩
  cases inR h.Pri 0 255
  · simp
  by_cases h64 : 64 < n
  · have h64' : (64 : Int) < n := by omega
    simp [hn, h64, h64']
  have h64' : ¬ (64 : Int) < n := by omega
  simp [hn, h64, h64']
  refine LoopK.intro (tr := []) mixed (by kernel_rfl) (fun i : Nat => [(1, .ptr 0 0), (3, .int .i64 i)]) (fun _ => [cellsE h]) (fun i => i ≤ n ∧ seenE 0 h.Seen = seenE (lastE h.Seen i) (h.Seen.drop i)) (fun i => n - i) 0 ?_ ?_ ?_
  · simp [lastE]
  · simp
  · rintro i ⟨k1, k2⟩
    by_cases hi : i < n
    · obtain ⟨x, hx, hd⟩ := get_drop (l := h.Seen) (i := i) (by omega)
      rw [hd, seenE] at k2
      have hx0 := hw x (List.mem_of_getElem? hx)
      have hnext : lastE h.Seen (i + 1) = x := by simp [lastE, List.getD, hx]
      clear hd
      cases i with
      | zero =>
        have w0 : IntKind.i64.wrap 1 = 1 := by decide
        by_cases hb : x = 0
        · have k3 : seenE 0 h.Seen = 16 := by rw [k2]; simp [lastE, hb]
          simp [hn, hi, hx, gE hx, hb, k3]
        · have h1 : ¬ x ≤ lastE h.Seen 0 := by simp only [lastE]; omega
          rw [if_neg h1] at k2
          simp [hn, hi, hx, gE hx, hb, w0]
          exact ⟨1, ⟨by omega, by rw [hnext]; exact k2⟩, by omega, by simp⟩
      | succ j =>
        obtain ⟨q, hq, _⟩ := get_drop (l := h.Seen) (i := j) (by omega)
        have hq0 := hw q (List.mem_of_getElem? hq)
        have hlast : lastE h.Seen (j + 1) = q := by simp [lastE, List.getD, hq]
        rw [hlast] at k2
        have w1 : IntKind.i64.wrap ((j : Int) + 1 + 1) = j + 1 + 1 := wrap_in (by omega)
        have w2 : IntKind.i64.wrap (j : Int) = j := wrap_in (by omega)
        have w3 : IntKind.i64.wrap ((j : Int) + 2) = j + 2 := wrap_in (by omega)
        have p0 : (0 : Int) < (j : Int) + 1 := by omega
        have p1 : (0 : Int) ≤ (j : Int) + 1 := by omega
        have hjn : j < n := by omega
        have hi' : (j : Int) + 1 < n := by omega
        by_cases hz : x = 0
        · rw [if_pos (show x ≤ q by omega)] at k2
          simp [hn, hi, hx, gE hx, hz, k2, p1, hi']
        · by_cases hb : x ≤ q
          · rw [if_pos hb] at k2
            simp [hn, hi, hx, gE hx, hq, gE hq, hz, hb, k2, p0, p1, w2, hjn, hi']
          · rw [if_neg hb] at k2
            simp [hn, hi, hx, gE hx, hq, gE hq, hz, hb, p0, p1, w1, w2, w3, hjn, hi']
            exact ⟨j + 1 + 1, ⟨by omega, by rw [hnext]; exact k2⟩, by omega, by simp⟩
    · have e : h.Seen.drop i = [] := List.drop_of_length_le (by omega)
      rw [e] at k2
      simp [seenE] at k2
      simp [hi, hn, k2]
end Go.Proofs.YtmgkemffbmfmpaaGreat

namespace Go.Proofs.YtmgkemffbmfmpaaGreat
open Go Go.Am

-- routingref24.Words
set_option maxHeartbeats 2000000 in
set_option maxRecDepth 10000 in
theorem f124 (a b : List Int) (n m : Nat) (hn : a.length = n) (hm : b.length = m) (hlen : n < 140737488355328) : CFun Tryz.prog 55 [.sl 1 (a.map enc32) .sh, .sl 1 (b.map enc32) .sh] [] (.bool (decide (a = b))) [] := by
  refine CFun.intro (tr := []) (fz := []) (n := 26) (rs := [.tmp 4]) Tryz.func55 rfl (by kernel_rfl) rfl rfl mixed (by kernel_rfl) (by simp) (by simp) ?_
  by_cases hnm : n = m
  case neg =>
    have : a ≠ b := by rintro rfl; exact hnm (hn.symm.trans hm)
    have hnm' : ¬ (n : Int) = m := by omega
    simp [hn, hm, hnm', this]
  subst hnm
  simp [hn, hm]
  refine LoopK.intro (tr := []) mixed (by kernel_rfl) (fun i : Nat => [(0, .sl 1 (a.map enc32) .sh), (1, .sl 1 (b.map enc32) .sh), (5, .int .i64 i)]) (fun _ => []) (fun i => i ≤ n ∧ (a = b ↔ a.drop i = b.drop i)) (fun i => n - i) 0 ?_ ?_ ?_
  · simp
  · simp
  · rintro i ⟨h1, h2⟩
    by_cases hi : i < n
    · obtain ⟨r, hx, hd⟩ := get_drop (l := a) (i := i) (by omega)
      obtain ⟨t, hy, he⟩ := get_drop (l := b) (i := i) (by omega)
      rw [hd, he, List.cons.injEq] at h2
      have w1 : IntKind.i64.wrap ((i : Int) + 1) = i + 1 := wrap_in (by omega)
      clear hd he
      by_cases hrt : r = t
      · subst hrt
        simp [hn, hm, hi, hx, hy, gE hx, gE hy, w1]
        exact ⟨i + 1, ⟨by omega, by simpa using h2⟩, by omega, by simp⟩
      · have hne : ¬ (a = b) := by rw [h2]; simp [hrt]
        simp [hn, hm, hi, hx, hy, gE hx, gE hy, hrt, hne]
    · have e : a.drop i = [] := List.drop_of_length_le (by omega)
      have e' : b.drop i = [] := List.drop_of_length_le (by omega)
      rw [e, e'] at h2
      have : i = n := by omega
      subst this
      simp [hn, h2]
theorem hel_eq (a b : Hel) : decide (a = b) = (decide (a.Len = b.Len) && decide (a.Hello = b.Hello) && decide (a.Dead = b.Dead) && decide (a.Pri = b.Pri) && decide (a.DR = b.DR) && decide (a.BDR = b.BDR) && decide (a.Seen = b.Seen)) := by
  rw [Bool.eq_iff_iff]
  cases a; cases b
  simp [and_assoc]
-- routingref24.SameHello
set_option maxHeartbeats 2000000 in
set_option maxRecDepth 10000 in
theorem f79 (a b : Hel) (hlen : a.Seen.length < 140737488355328) : CFun Tryz.prog 18 [encE a, encE b] [] (.bool (decide (a = b))) [] := by
  refine CFun.intro (tr := []) (fz := []) (n := 52) (rs := [.tmp 4]) Tryz.func18 rfl (by kernel_rfl) rfl rfl mixed (by kernel_rfl) (by simp) (by simp) ?_
  have h1 := fun H => (f124 a.Seen b.Seen _ _ rfl rfl hlen).up' H rfl rfl
  rw [hel_eq]
  generalize decide (a.Seen = b.Seen) = w at h1 ⊢
  by_cases e1 : a.Len = b.Len
  case neg => simp [e1]
  by_cases e2 : a.Hello = b.Hello
  case neg => simp [e1, e2]
  by_cases e3 : a.Dead = b.Dead
  case neg => simp [e1, e2, e3]
  by_cases e4 : a.Pri = b.Pri
  case neg => simp [e1, e2, e3, e4]
  by_cases e5 : a.DR = b.DR
  case neg => simp [e1, e2, e3, e4, e5]
  by_cases e6 : a.BDR = b.BDR
  case neg => simp [e1, e2, e3, e4, e5, e6]
  simp [e1, e2, e3, e4, e5, e6]
  refine ⟨_, _, .inl (by simpa using h1 _), by simp, ?_⟩
  simp
-- routingref24.unused
set_option maxHeartbeats 4000000 in
set_option maxRecDepth 10000 in
theorem f64 (p : Pkt) (hlen : p.E.Seen.length < 140737488355328) : CFun Tryz.prog 50 [encPk p] [] (.bool (!forP p)) [] := by
  refine CFun.intro (tr := []) (fz := []) (n := 67) (rs := [.tmp 2]) Tryz.func50 rfl (by kernel_rfl) rfl rfl mixed (by kernel_rfl) (by simp) (by simp) ?_
  have h1 : ∀ H cs, All2 LeC cs (cellsE hel0) → CFun Tryz.prog 18 [encE p.E, .agg cs] H (.bool (decide (p.E = hel0))) H := fun H cs h =>
    ((f79 p.E hel0 hlen).wk [encE p.E, .agg cs] (by simp) ⟨LeS_refl _, h, trivial⟩).up' H rfl rfl
  have hf : forP p = ((decide (p.Kind ≠ 1) && !decide (p.E = hel0)) || (decide (p.Kind ≠ 2) && (decide (p.Seq ≠ 0) || p.Init || p.More || p.Master)) || (decide (p.Kind ≠ 3) && !decide (p.Keys = [])) || (decide (p.Kind ≠ 4) && !decide (p.Lsas = [])) ||
    (decide (p.Kind ≠ 2) && decide (p.Kind ≠ 5) && !decide (p.Heads = []))) := rfl
  rw [hf]
  clear hf
  generalize decide (p.E = hel0) = A at h1 ⊢
  have hk : (0 < p.Keys.length) = ¬ (p.Keys = []) := propext List.length_pos_iff
  have hl : (0 < p.Lsas.length) = ¬ (p.Lsas = []) := propext List.length_pos_iff
  have hh : (0 < p.Heads.length) = ¬ (p.Heads = []) := propext List.length_pos_iff
  have tail : ∀ k : Int, p.Kind = k → True := fun _ _ => trivial
  by_cases k1 : p.Kind = 1
  · by_cases q1 : p.Seq = 0 <;> cases q2 : p.Init <;> cases q3 : p.More <;> cases q4 : p.Master <;> by_cases n3 : p.Keys = [] <;> by_cases n4 : p.Lsas = [] <;> by_cases n5 : p.Heads = [] <;> simp [k1, q1, q2, q3, q4, n3, n4, n5, hk, hl, hh]
  · simp [k1]
    refine ⟨_, _, .inl (h1 _ _ (by simp [hel0])), by simp, ?_⟩
    cases A
    case false => simp
    by_cases k2 : p.Kind = 2
    · by_cases n3 : p.Keys = [] <;> by_cases n4 : p.Lsas = [] <;> simp [k2, n3, n4, hk, hl, hh]
    · by_cases q1 : p.Seq = 0
      case neg => simp [k1, k2, q1]
      cases q2 : p.Init
      case true => simp [k1, k2, q1, q2]
      cases q3 : p.More
      case true => simp [k1, k2, q1, q2, q3]
      cases q4 : p.Master
      case true => simp [k1, k2, q1, q2, q3, q4]
      by_cases k5 : p.Kind = 5
      · by_cases n3 : p.Keys = [] <;> by_cases n4 : p.Lsas = [] <;> simp [k5, q1, q2, q3, q4, n3, n4, hk, hl, hh]
      · by_cases n5 : p.Heads = []
        case neg => simp [k1, k2, k5, q1, q2, q3, q4, n5, hh]
        by_cases k3 : p.Kind = 3
        · by_cases n4 : p.Lsas = [] <;> simp [k3, q1, q2, q3, q4, n4, n5, hk, hl, hh]
        · by_cases k4 : p.Kind = 4
          · by_cases n3 : p.Keys = [] <;> simp [k4, q1, q2, q3, q4, n3, n5, hk, hl, hh]
          · by_cases n3 : p.Keys = [] <;> by_cases n4 : p.Lsas = [] <;> simp [k1, k2, k3, k4, k5, q1, q2, q3, q4, n3, n4, n5, hk, hl, hh]
end Go.Proofs.YtmgkemffbmfmpaaGreat

namespace Go.Proofs.YtmgkemffbmfmpaaGreat
open Go Go.Am

/-- What Check needs to know of a packet. -/
structure okPk (p : Pkt) : Prop where
  seen : p.E.Seen.length < 140737488355328
  keys : p.Keys.length < 1099511627776000
  lsas : p.Lsas.length < 1099511627776
  heads : p.Heads.length < 1099511627776000
  nat : ∀ x ∈ p.E.Seen, 0 ≤ x
  okh : ∀ x ∈ p.Heads, inW x.ID
  oka : ∀ x ∈ p.Lsas, okA x
-- lspacket.Check
set_option maxHeartbeats 8000000 in
set_option maxRecDepth 10000 in
theorem f16 (p : Pkt) (ok : okPk p) : CFun Tryz.prog 11 [encPk p] [] (.int .i64 (chkP p)) [] := by
  refine CFun.intro (tr := []) (fz := []) (n := 41) (rs := [.tmp 2]) Tryz.func11 rfl (by kernel_rfl) rfl rfl mixed (by kernel_rfl) (by simp) (by simp) ?_
  have h1 := fun H => (f51 p.Kind 1 5).up' H rfl rfl
  have h2 := fun H => (f51 p.Seq 0 2147483647).up' H rfl rfl
  have h3 := fun H => (f52 p).up' H rfl rfl
  have h4 := fun H => (f53 p.E _ rfl ok.seen).up' H rfl rfl
  have h5 := fun H => (f54 p.Keys _ rfl ok.keys).up' H rfl rfl
  have h6 := fun H => (f57 p.Lsas _ rfl (Nat.lt_trans ok.lsas (by decide))).up' H rfl rfl
  have h7 := fun H => (f60 p.Heads _ rfl ok.heads).up' H rfl rfl
  unfold chkP
  generalize chkE p.E = vE at h4 ⊢
  generalize listG chkY id p.Keys = vK at h5 ⊢
  generalize listG sealE keyA p.Lsas = vL at h6 ⊢
  generalize listG chkH keyH p.Heads = vH at h7 ⊢
  generalize forP p = vF at h3 ⊢
  generalize inR p.Seq 0 2147483647 = vS at h2 ⊢
  generalize inR p.Kind 1 5 = vR at h1 ⊢
  simp
  refine ⟨_, _, .inl (by simpa using h1 _), by simp, ?_⟩
  cases vR
  · simp
  by_cases hr : p.Router = 0
  · simp [hr]
  simp [hr]
  refine ⟨_, _, .inl (by simpa using h3 _), by simp, ?_⟩
  cases vF
  case true => simp
  by_cases k1 : p.Kind = 1
  · simp [k1]
    exact ⟨_, _, .inl (by simpa using h4 _), by simp, by simp⟩
  by_cases k3 : p.Kind = 3
  · simp [k3]
    exact ⟨_, _, .inl (by simpa using h5 _), by simp, by simp⟩
  by_cases k4 : p.Kind = 4
  · simp [k4]
    exact ⟨_, _, .inl (by simpa using h6 _), by simp, by simp⟩
  by_cases k2 : p.Kind = 2
  · simp [k2]
    refine ⟨_, _, .inl (by simpa using h2 _), by simp, ?_⟩
    cases vS
    · simp
    simp
    exact ⟨_, _, .inl (by simpa using h7 _), by simp, by simp⟩
  simp [k1, k2, k3, k4]
  exact ⟨_, _, .inl (by simpa using h7 _), by simp, by simp⟩
end Go.Proofs.YtmgkemffbmfmpaaGreat

namespace Go.Proofs.YtmgkemffbmfmpaaGreat
open Go Go.Am

-- routingref24.Check
set_option maxHeartbeats 8000000 in
set_option maxRecDepth 10000 in
theorem f17 (p : Pkt) (ok : okPk p) : CFun Tryz.prog 17 [encPk p] [] (.int .i64 (chkP p)) [] := by
  refine CFun.intro (tr := []) (fz := []) (n := 43) (rs := [.tmp 2]) Tryz.func17 rfl (by kernel_rfl) rfl rfl mixed (by kernel_rfl) (by simp) (by simp) ?_
  have h1 := fun H => (f63 p.Kind 1 5).up' H rfl rfl
  have h2 := fun H => (f63 p.Seq 0 2147483647).up' H rfl rfl
  have h3 := fun H => (f64 p ok.seen).up' H rfl rfl
  have h4 := fun H => (f65 p.E _ rfl ok.seen ok.nat).up' H rfl rfl
  have h5 := fun H => (f66 p.Keys _ rfl ok.keys).up' H rfl rfl
  have h6 := fun H => (f67 p.Lsas _ rfl ok.lsas ok.oka).up' H rfl rfl
  have h7 := fun H => (f68 p.Heads _ rfl ok.heads ok.okh).up' H rfl rfl
  have hL : listG sealE keyA p.Lsas = if 64 < p.Lsas.length then 4 else rowsE none p.Lsas := by rw [← rowsG_E]; rfl
  unfold chkP
  rw [hL]
  clear hL
  generalize chkE p.E = vE at h4 ⊢
  generalize listG chkY id p.Keys = vK at h5 ⊢
  generalize rowsE none p.Lsas = vL at h6 ⊢
  generalize listG chkH keyH p.Heads = vH at h7 ⊢
  generalize forP p = vF at h3 ⊢
  generalize inR p.Seq 0 2147483647 = vS at h2 ⊢
  generalize inR p.Kind 1 5 = vR at h1 ⊢
  simp
  refine ⟨_, _, .inl (by simpa using h1 _), by simp, ?_⟩
  cases vR
  · simp
  by_cases hr : p.Router = 0
  · simp [hr]
  simp [hr]
  refine ⟨_, _, .inl (by simpa using h3 _), by simp, ?_⟩
  cases vF
  case true => simp
  by_cases k1 : p.Kind = 1
  · simp [k1]
    exact ⟨_, _, .inl (by simpa using h4 _), by simp, by simp⟩
  by_cases k3 : p.Kind = 3
  · simp [k3]
    exact ⟨_, _, .inl (by simpa using h5 _), by simp, by simp⟩
  by_cases k4 : p.Kind = 4
  · by_cases h64 : 64 < p.Lsas.length
    · have h64' : (64 : Int) < p.Lsas.length := by omega
      simp [k4, h64, h64']
    have h64' : ¬ (64 : Int) < p.Lsas.length := by omega
    simp [k4, h64, h64']
    exact ⟨_, _, .inl (by simpa using h6 _), by simp, by simp⟩
  by_cases k2 : p.Kind = 2
  · simp [k2]
    refine ⟨_, _, .inl (by simpa using h2 _), by simp, ?_⟩
    cases vS
    · simp
    simp
    exact ⟨_, _, .inl (by simpa using h7 _), by simp, by simp⟩
  simp [k1, k2, k3, k4]
  exact ⟨_, _, .inl (by simpa using h7 _), by simp, by simp⟩
end Go.Proofs.YtmgkemffbmfmpaaGreat
