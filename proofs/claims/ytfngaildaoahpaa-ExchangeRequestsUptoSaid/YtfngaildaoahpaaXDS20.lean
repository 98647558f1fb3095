import Derived.Test.YtfngaildaoahpaaXDS13
set_option linter.unusedSimpArgs false
set_option linter.unusedVariables false
namespace Go.Proofs.Ytfngaildaoahpaa
open Go Go.Am
theorem mask_bits (k i : Nat) (hk : k ≤ 32) : ((4294967295 * 2 ^ k) % 2 ^ 32).testBit i = (decide (i < 32) && decide (k ≤ i)) := by
 rw [Nat.testBit_mod_two_pow, Nat.testBit_mul_two_pow]
 have e : (4294967295 : Nat) = 2 ^ 32 - 1 := by decide
 rw [e, Nat.testBit_two_pow_sub_one]
 by_cases h1 : i < 32
 · by_cases h2 : k ≤ i
   · have : i - k < 32 := by omega
     simp [h1, h2, this]
   · simp [h2]
 · simp [h1]
theorem and_mask (A k : Nat) (hA : A < 2 ^ 32) (hk : k ≤ 32) : A &&& ((4294967295 * 2 ^ k) % 2 ^ 32) = A ↔ ∀ s, s < k → A.testBit s = false := by
 constructor
 · intro h s hs
   have := congrArg (fun x => x.testBit s) h
   simp only [Nat.testBit_and, mask_bits k s hk] at this
   have h2 : ¬ (k ≤ s) := by omega
   simpa [h2] using this.symm
 · intro h
   apply Nat.eq_of_testBit_eq
   intro i
   rw [Nat.testBit_and, mask_bits k i hk]
   by_cases h2 : k ≤ i
   · by_cases h1 : i < 32
     · simp [h1, h2]
     · have : A.testBit i = false := Nat.testBit_lt_two_pow (Nat.lt_of_lt_of_le hA (Nat.pow_le_pow_right (by omega) (by omega)))
       simp [this]
   · simp [h2, h i (by omega)]
theorem wrap_u32 (x : Int) : IntKind.u32.wrap x = x % 4294967296 := rfl
theorem mask_nat (m : Nat) (hm : m ≤ 32) : maskI m = ((4294967295 * 2 ^ (32 - m) % 2 ^ 32 : Nat) : Int) := by
 unfold maskI
 have hc : clampI m 32 = m := by
   unfold clampI
   rw [if_neg (by omega), if_neg (by omega)]
 have e : min (32 - (m : Int)).toNat 32 = 32 - m := by omega
 rw [hc, e, wrap_u32]
 simp
theorem keep_nat (A m : Nat) (hA : A < 2 ^ 32) (hm : m ≤ 32) : keepI A m = ((A &&& (4294967295 * 2 ^ (32 - m) % 2 ^ 32) : Nat) : Int) := by
 unfold keepI
 rw [mask_nat m hm]
 have h1 : ((A : Int) % 4294967296).toNat = A := by omega
 have hM : 4294967295 * 2 ^ (32 - m) % 2 ^ 32 < 2 ^ 32 := Nat.mod_lt _ (by omega)
 generalize 4294967295 * 2 ^ (32 - m) % 2 ^ 32 = M at hM ⊢
 have h2 : ((M : Int) % 4294967296).toNat = M := by omega
 simp only [BitVec.toNat_and, BitVec.toNat_ofInt]
 have hp : ((2 ^ 32 : Nat) : Int) = 4294967296 := by decide
 rw [hp, h1, h2, wrap_u32]
 have : A &&& M < 2 ^ 32 := Nat.lt_of_le_of_lt Nat.and_le_left hA
 omega
theorem valid_bits (A m : Nat) (hA : A < 2 ^ 32) (hm : m ≤ 32) : validP A m = true ↔ ∀ s, s < 32 - m → A.testBit s = false := by
 have h0 : (0 : Int) ≤ m := by omega
 have h1 : (m : Int) ≤ 32 := by omega
 simp only [validP, h0, h1, decide_true, Bool.true_and, decide_eq_true_eq]
 rw [keep_nat A m hA hm, ← and_mask A (32 - m) hA (by omega)]
 omega
theorem bit_here (A : Nat) (hA : A < 2 ^ 32) (s : Nat) (hs : s ≤ 31) : IntKind.u32.wrap (((((A : Int).fdiv (2 ^ min s IntKind.u32.bits)) % 2 ^ IntKind.u32.bits).toNat &&& 1 % 2 ^ IntKind.u32.bits : Nat) : Int) = 1 ↔ A.testBit s = true := by
 have hbits : IntKind.u32.bits = 32 := rfl
 have hmin : min s 32 = s := by omega
 have hp : (2 : Int) ^ s = ((2 ^ s : Nat) : Int) := by simp
 have hd : (A : Int).fdiv (2 ^ s) = ((A / 2 ^ s : Nat) : Int) := by
   rw [hp, Int.fdiv_eq_ediv_of_nonneg _ (Int.natCast_nonneg _)]
   exact (Int.natCast_ediv _ _).symm
 have hq : A / 2 ^ s < 2 ^ 32 := Nat.lt_of_le_of_lt (Nat.div_le_self _ _) hA
 rw [hbits, hmin, hd]
 have h32 : ((2 : Int) ^ 32) = 4294967296 := by decide
 have h1 : 1 % 2 ^ 32 = 1 := by decide
 rw [h32, h1]
 rw [Nat.testBit_eq_decide_div_mod_eq]
 generalize A / 2 ^ s = q at hq ⊢
 have h2 : ((q : Int) % 4294967296).toNat = q := by omega
 rw [h2, Nat.and_one_is_mod, wrap_u32, decide_eq_true_eq]
 omega
set_option maxHeartbeats 1000000 in
set_option maxRecDepth 10000 in
theorem c70 (A : Nat) (hA : A < 2 ^ 32) (n : Int) : CFun Try.prog 104 [.int .u32 A, .int .i64 n] [] (.bool (validP A n)) [] := by
 refine CFun.intro (tr := []) (fz := []) (n := 24) (rs := [.tmp 4]) Try.func104 rfl (by kernel_rfl) rfl rfl mixed (by kernel_rfl) (by simp) (by simp) ?_
 by_cases h0 : n < 0
 · have : ¬ (0 ≤ n) := by omega
   simp [h0, validP, this]
 by_cases h1 : 32 < n
 · have : ¬ (n ≤ 32) := by omega
   simp [h0, h1, validP, this]
 obtain ⟨m, rfl⟩ : ∃ m : Nat, n = m := ⟨n.toNat, by omega⟩
 have hm : m ≤ 32 := by omega
 simp [h0, h1]
 refine LoopK.intro (tr := []) mixed (by kernel_rfl) (fun i : Nat => [(0, .int .u32 A), (5, .int .i64 i)]) (fun _ => []) (fun i => m ≤ i ∧ i ≤ 32 ∧ ∀ j, m ≤ j → j < i → A.testBit (31 - j) = false) (fun i => 32 - i) m ?_ ?_ ?_
 · exact ⟨by omega, hm, by omega⟩
 · simp
 · rintro i ⟨i1, i2, i3⟩
   by_cases hi : i < 32
   · have hi' : (i : Int) < 32 := by omega
     have w1 : IntKind.i64.wrap ((i : Int) + 1) = i + 1 := wrap_in (by omega)
     have w2 : IntKind.i64.wrap (31 - (i : Int)) = 31 - i := wrap_in (by omega)
     have w3 : IntKind.u64.wrap (31 - (i : Int)) = 31 - i := by rw [wrap_u64]; omega
     have w4 : ¬ (31 - (i : Int) < 0) := by omega
     simp [hi', w1, w2, w3, w4]
     have hb := bit_here A hA (31 - i)
     by_cases hbit : A.testBit (31 - i) = true
     · have hv : validP A m = false := by
         cases hv : validP A m
         · rfl
         · have := (valid_bits A m hA hm).1 hv (31 - i) (by omega)
           rw [this] at hbit; cases hbit
       rw [if_pos ((hb (by omega)).2 hbit)]
       exact hv
     · rw [if_neg (fun h => hbit ((hb (by omega)).1 h))]
       refine ⟨i + 1, ⟨by omega, by omega, fun j j1 j2 => ?_⟩, by omega, by omega⟩
       by_cases hji : j = i
       · subst hji; simpa using hbit
       · exact i3 j j1 (by omega)
   · have hi' : ¬ ((i : Int) < 32) := by omega
     have hv : validP A m = true := (valid_bits A m hA hm).2 fun s hs => by
       have := i3 (31 - s) (by omega) (by omega)
       rwa [show 31 - (31 - s) = s by omega] at this
     simp [hi', hv]
end Go.Proofs.Ytfngaildaoahpaa

namespace Go.Proofs.Ytfngaildaoahpaa
open Go Go.Am
theorem inR_iff (n lo hi : Int) : inR n lo hi = true ↔ lo ≤ n ∧ n ≤ hi := by simp [inR]
theorem hasP_ty (t : Int) (h : inR t 1 5 = true) : hasP t = true ↔ ¬ (t = 1 ∨ t = 4) := by
 rw [inR_iff] at h
 simp only [hasP, Bool.or_eq_true, decide_eq_true_eq]
 omega
set_option maxHeartbeats 4000000 in
set_option maxRecDepth 10000 in
theorem c34 (h : Hdr) (hid : inW h.ID) : CFun Try.prog 90 [encH h] [] (.int .i64 (chkH h)) [] := by
 obtain ⟨A, hA⟩ : ∃ A : Nat, h.ID = A := ⟨h.ID.toNat, by have := hid.1; omega⟩
 have hA2 : A < 2 ^ 32 := by have := hid.2; omega
 refine CFun.intro (tr := []) (fz := []) (n := 82) (rs := [.tmp 2]) Try.func90 rfl (by kernel_rfl) rfl rfl mixed (by kernel_rfl) (by simp) (by simp) ?_
 have h48 : ∀ n lo hi H, CFun Try.prog 94 [.int .i64 n, .int .i64 lo, .int .i64 hi] H (.bool (inR n lo hi)) H := fun n lo hi H => (c48 n lo hi).up' H rfl rfl
 have h70 : ∀ H, CFun Try.prog 104 [.int .u32 h.ID, .int .i64 h.Len] H (.bool (validP h.ID h.Len)) H := fun H => by
   rw [hA]; exact (c70 A hA2 h.Len).up' H rfl rfl
 simp
 refine ⟨_, _, .inl (h48 _ _ _ _), trivial, ?_⟩
 cases e1 : inR h.Ty 1 5
 · simp [chkH, e1]
 simp
 by_cases e2 : h.Router = 0
 · simp [chkH, e1, e2]
 simp [e2]
 refine ⟨_, _, .inl (h48 _ _ _ _), trivial, ?_⟩
 cases e3 : inR h.Seq 1 2147483647
 · simp [chkH, e1, e2, e3]
 simp
 refine ⟨_, _, .inl (h48 _ _ _ _), trivial, ?_⟩
 cases e4 : inR h.Age 0 3600
 · simp [chkH, e1, e2, e3, e4]
 simp
 refine ⟨_, _, .inl (h48 _ _ _ _), trivial, ?_⟩
 cases e5 : inR h.Sum 0 65535
 · simp [chkH, e1, e2, e3, e4, e5]
 have hk : chkH h = if inR h.Len 0 (if hasP h.Ty = true then 32 else 0) = false then 5 else if h.Ty = 1 ∧ h.ID ≠ h.Router then 14 else if (h.Ty = 3 ∨ h.Ty = 5) ∧ validP h.ID h.Len = false then 1 else if (h.Ty = 2 ∨ h.Ty = 4) ∧ h.ID = 0 then 1 else 0 := by
   simp [chkH, e1, e2, e3, e4, e5]
 have hp := hasP_ty h.Ty e1
 by_cases t1 : h.Ty = 1
 · have hp' : hasP h.Ty = false := by
     cases hq : hasP h.Ty
     · rfl
     · exact (hp.1 hq (.inl t1)).elim
   rw [hp'] at hk
   by_cases e6 : h.Len = 0
   · have hr : inR h.Len 0 0 = true := (inR_iff _ _ _).2 (by omega)
     simp only [Bool.false_eq_true, if_false, hr] at hk
     by_cases e7 : h.ID = h.Router
     · simp [hk, t1, e6, e7]
     · simp [hk, t1, e6, e7]
   · have hr : inR h.Len 0 0 = false := by
       cases hq : inR h.Len 0 0
       · rfl
       · have := (inR_iff _ _ _).1 hq; omega
     simp only [Bool.false_eq_true, if_false, hr] at hk
     simp [hk, t1, e6]
 by_cases t4 : h.Ty = 4
 · have hp' : hasP h.Ty = false := by
     cases hq : hasP h.Ty
     · rfl
     · exact (hp.1 hq (.inr t4)).elim
   rw [hp'] at hk
   by_cases e6 : h.Len = 0
   · have hr : inR h.Len 0 0 = true := (inR_iff _ _ _).2 (by omega)
     simp only [Bool.false_eq_true, if_false, hr] at hk
     by_cases e9 : h.ID = 0 <;> simp [hk, t4, e6, e9]
   · have hr : inR h.Len 0 0 = false := by
       cases hq : inR h.Len 0 0
       · rfl
       · have := (inR_iff _ _ _).1 hq; omega
     simp only [Bool.false_eq_true, if_false, hr] at hk
     simp [hk, t4, e6]
 have hp' : hasP h.Ty = true := hp.2 (by omega)
 rw [hp'] at hk
 have b1 : (h.Ty == 1) = false := by simpa using t1
 have b4 : (h.Ty == 4) = false := by simpa using t4
 simp [b1, b4]
 refine ⟨_, _, .inl (h48 _ _ _ _), trivial, ?_⟩
 cases e6 : inR h.Len 0 32
 · simp [hk, e6]
 simp only [if_true, e6, Bool.true_eq_false, if_false] at hk
 by_cases t3 : h.Ty = 3
 · simp [t3]
   refine ⟨_, _, .inl (h70 _), trivial, ?_⟩
   cases e8 : validP h.ID h.Len <;> simp [hk, t3, e8]
 by_cases t5 : h.Ty = 5
 · simp [t5]
   refine ⟨_, _, .inl (h70 _), trivial, ?_⟩
   cases e8 : validP h.ID h.Len <;> simp [hk, t5, e8]
 by_cases t2 : h.Ty = 2
 · by_cases e9 : h.ID = 0 <;> simp [hk, t2, e9]
 simp [hk, t1, t2, t3, t4, t5]
set_option maxHeartbeats 2000000 in
set_option maxRecDepth 10000 in
theorem c83 (a b : Lnk) : CFun Try.prog 105 [encK a, encK b] [] (.int .i64 (ordK a b)) [] := by
 refine CFun.intro (tr := []) (fz := []) (n := 30) (rs := [.tmp 4]) Try.func105 rfl (by kernel_rfl) rfl rfl mixed (by kernel_rfl) (by simp) (by simp) ?_
 have h52 : ∀ x y H, CFun Try.prog 55 [.int .i64 x, .int .i64 y] H (.int .i64 (cmpI x y)) H := fun x y H => (c52 x y).up' H rfl rfl
 have h63 : ∀ x y H, CFun Try.prog 56 [.int .u32 x, .int .u32 y] H (.int .i64 (cmpI x y)) H := fun x y H => (c63 x y).up' H rfl rfl
 have nz : ∀ {x y : Int}, x ≠ y → cmpI x y ≠ 0 := fun h h' => h ((cmpI_zero _ _).1 h')
 have zz : ∀ {x y : Int}, x = y → cmpI x y = 0 := fun h => (cmpI_zero _ _).2 h
 by_cases e1 : a.Kind = b.Kind
 case neg =>
   have b1 : (a.Kind != b.Kind) = true := by simpa using e1
   simp [b1]
   refine ⟨_, _, .inl (h52 _ _ _), by simp, ?_⟩
   simp [ordK, orL, nz e1]
 have b1 : (a.Kind != b.Kind) = false := by simpa using e1
 by_cases e2 : a.ID = b.ID
 case neg =>
   have b2 : (a.ID != b.ID) = true := by simpa using e2
   simp [b1, b2]
   refine ⟨_, _, .inl (h63 _ _ _), by simp, ?_⟩
   simp [ordK, orL, zz e1, nz e2]
 have b2 : (a.ID != b.ID) = false := by simpa using e2
 simp [b1, b2]
 refine ⟨_, _, .inl (h63 _ _ _), by simp, ?_⟩
 simp [ordK, orL, zz e1, zz e2]
set_option maxHeartbeats 4000000 in
set_option maxRecDepth 10000 in
theorem c45 (l : Lsa) (ht : inR l.H.Ty 1 5 = true) : CFun Try.prog 91 [encA l] [] (.bool (!forB l)) [] := by
 rw [inR_iff] at ht
 refine CFun.intro (tr := []) (fz := []) (n := 55) (rs := [.tmp 2]) Try.func91 rfl (by kernel_rfl) rfl rfl mixed (by kernel_rfl) (by simp) (by simp) ?_
 have hm : memL [3, 4, 5] l.H.Ty = decide (3 ≤ l.H.Ty) := by
   simp only [memL, List.mem_cons, List.not_mem_nil, or_false]
   congr 1
   simp only [eq_iff_iff]
   omega
 simp only [forB, memL1, hm]
 by_cases t1 : l.H.Ty = 1
 · by_cases a1 : 0 < l.Att.length
   · simp [t1, a1]
   · by_cases a2 : l.Cost = 0
     · cases a3 : l.Second
       · by_cases a4 : l.Fwd = 0
         · by_cases a5 : l.Tag = 0 <;> simp [t1, a1, a2, a3, a4, a5]
         · simp [t1, a1, a2, a3, a4]
       · simp [t1, a1, a2, a3]
     · simp [t1, a1, a2]
 · have b1 : (l.H.Ty != 1) = true := by simpa using t1
   cases q1 : l.Border
   case true => simp [b1, t1, q1]
   cases q2 : l.Boundary
   case true => simp [b1, t1, q1, q2]
   by_cases q3 : 0 < l.Links.length
   · simp [b1, t1, q1, q2, q3]
   by_cases t2 : l.H.Ty = 2
   · by_cases a2 : l.Cost = 0
     · cases a3 : l.Second
       · by_cases a4 : l.Fwd = 0
         · by_cases a5 : l.Tag = 0 <;> simp [t2, q1, q2, q3, a2, a3, a4, a5]
         · simp [t2, q1, q2, q3, a2, a3, a4]
       · simp [t2, q1, q2, q3, a2, a3]
     · simp [t2, q1, q2, q3, a2]
   · have b2 : (l.H.Ty != 2) = true := by simpa using t2
     have b3 : ¬ (l.H.Ty < 3) := by omega
     have b3' : 3 ≤ l.H.Ty := by omega
     by_cases a1 : 0 < l.Att.length
     · simp [b1, b2, t1, t2, q1, q2, q3, a1]
     · by_cases t5 : l.H.Ty = 5
       · simp [t5, q1, q2, q3, a1]
       · have b5 : (l.H.Ty == 5) = false := by simpa using t5
         cases a3 : l.Second
         · by_cases a4 : l.Fwd = 0
           · by_cases a5 : l.Tag = 0 <;> simp [b1, b2, b3, b3', b5, t1, t2, t5, q1, q2, q3, a1, a3, a4, a5]
           · simp [b1, b2, b3, b3', b5, t1, t2, t5, q1, q2, q3, a1, a3, a4]
         · simp [b1, b2, b3, b3', b5, t1, t2, t5, q1, q2, q3, a1, a3]
end Go.Proofs.Ytfngaildaoahpaa

namespace Go.Proofs.Ytfngaildaoahpaa
open Go Go.Am
def okK (x : Lnk) : Prop := inW x.ID ∧ inW x.Data
set_option maxHeartbeats 4000000 in
set_option maxRecDepth 10000 in
theorem c46 (l : Lsa) (n : Nat) (hn : l.Links.length = n) (hok : ∀ x ∈ l.Links, okK x) : CFun Try.prog 92 [encA l] [] (.int .i64 (chkLinks l.Links l.H.Router)) [] := by
 refine CFun.intro (tr := []) (fz := []) (n := 75) (rs := [.tmp 2]) Try.func92 rfl (by kernel_rfl) rfl rfl mixed (by kernel_rfl) (by simp) (by simp) ?_
 have h48 : ∀ n lo hi H, CFun Try.prog 94 [.int .i64 n, .int .i64 lo, .int .i64 hi] H (.bool (inR n lo hi)) H := fun n lo hi H => (c48 n lo hi).up' H rfl rfl
 have hc : (l.Links.length : Int) = n := by omega
 by_cases h64 : (64 : Int) < n
 · have : 64 < l.Links.length := by omega
   simp [hc, h64, chkLinks, this]
 have hs : chkLinks l.Links l.H.Router = chkKs l.H.Router none l.Links := by rw [chkLinks, if_neg (by omega)]
 rw [hs]
 simp [hc, h64]
 refine LoopK.intro (tr := []) mixed (by kernel_rfl) (fun i : Nat => [(1, .ptr 0 0), (3, .int .i64 i)]) (fun _ => [cellsA l]) (fun i => i ≤ n ∧ chkKs l.H.Router none l.Links = chkKs l.H.Router (prevK l.Links i) (l.Links.drop i)) (fun i => n - i) 0 ?_ ?_ ?_
 · simp [prevK]
 · simp
 · rintro i ⟨i1, i2⟩
   by_cases hi : i < n
   · obtain ⟨x, hx, hd⟩ := get_drop (l := l.Links) (i := i) (by omega)
     obtain ⟨ok1, ok2⟩ := hok x (List.mem_of_getElem? hx)
     rw [hd] at i2
     simp only [chkKs] at i2
     have w1 : IntKind.i64.wrap ((i : Int) + 1) = i + 1 := wrap_in (by omega)
     have hx' : ((i : Int).toNat) = i := by omega
     simp [hc, hi, hx]
     refine ⟨_, _, .inl (h48 _ _ _ _), by simp, ?_⟩
     cases e1 : inR x.Kind 1 3
     · have hk : chkK x l.H.Router = 15 := by simp [chkK, e1]
       simp [hk] at i2
       simp [i2]
     simp
     refine ⟨_, _, .inl (h48 _ _ _ _), by simp, ?_⟩
     cases e2 : inR x.Cost 1 65535
     · have hk : chkK x l.H.Router = 5 := by simp [chkK, e1, e2]
       simp [hk] at i2
       simp [i2]
     have hk : chkK x l.H.Router = if (x.Kind = 1 ∧ (x.ID = 0 ∨ x.ID = l.H.Router)) ∨ (x.Kind = 3 ∧ validP x.ID (stubLen x.Data) = false) then 1 else 0 := by simp [chkK, e1, e2]
     obtain ⟨A, hA⟩ : ∃ A : Nat, x.ID = A := ⟨x.ID.toNat, by have := ok1.1; omega⟩
     have hA2 : A < 2 ^ 32 := by have := ok1.2; omega
     have h70 : ∀ d H, CFun Try.prog 104 [.int .u32 x.ID, .int .i64 d] H (.bool (validP x.ID d)) H := fun d H => by
       rw [hA]; exact (c70 A hA2 d).up' H rfl rfl
     have wD : IntKind.i64.wrap x.Data = x.Data := wrap_in (by have := ok2.1; have := ok2.2; omega)
     have good : chkK x l.H.Router = 0 → ∀ j : Nat, j + 1 = i → ∃ q, l.Links[j]? = some q ∧ chkKs l.H.Router none l.Links = if 0 ≤ ordK q x then 16 else chkKs l.H.Router (some x) (l.Links.drop (i + 1)) := by
       intro h0 j hj
       obtain ⟨q, hq, _⟩ := get_drop (l := l.Links) (i := j) (by omega)
       subst hj
       rw [if_neg (by simp [h0])] at i2
       simp only [prevK, hq] at i2
       exact ⟨q, hq, i2⟩
     have good0 : chkK x l.H.Router = 0 → i = 0 → chkKs l.H.Router none l.Links = chkKs l.H.Router (some x) (l.Links.drop (i + 1)) := by
       intro h0 hi0
       rw [if_neg (by simp [h0])] at i2
       subst hi0
       simpa [prevK] using i2
     have bad : chkK x l.H.Router = 1 → chkKs l.H.Router none l.Links = 1 := by
       intro h0
       rw [if_pos (by simp [h0])] at i2
       rw [i2, h0]
     clear i2 hd hn
     by_cases t1 : x.Kind = 1
     · by_cases t2 : x.ID = 0
       · have hb := bad (by rw [hk, if_pos (.inl ⟨t1, .inl t2⟩)])
         simp [t1, t2, hb]
       · by_cases t3 : x.ID = l.H.Router
         · have hb := bad (by rw [hk, if_pos (.inl ⟨t1, .inr t3⟩)])
           simp [t1, t3, hb]
         · have hz : chkK x l.H.Router = 0 := by rw [hk, if_neg (by omega)]
           have bk1 : (x.Kind == 1) = true := by simpa using t1
           have bk3 : (x.Kind == 3) = false := by simp [t1]
           have bi0 : (x.ID == 0) = false := by simpa using t2
           have bir : (x.ID == l.H.Router) = false := by simpa using t3
           cases i with
           | zero =>
             have g := good0 hz rfl
             have w0 : IntKind.i64.wrap 1 = 1 := by decide
             simp [bk1, bk3, bi0, bir, w0]
             exact ⟨1, ⟨by omega, by simpa [prevK, hx] using g⟩, by omega, by simp⟩
           | succ j =>
             obtain ⟨q, hq, g⟩ := good hz j rfl
             have h83 := fun H => (c83 q x).up' H rfl rfl
             have w2 : IntKind.i64.wrap (j : Int) = j := wrap_in (by omega)
             have w3 : IntKind.i64.wrap ((j : Int) + 1 + 1) = j + 1 + 1 := wrap_in (by omega)
             have h0 : (0 : Int) < ((j + 1 : Nat) : Int) := by omega
             simp only [Int.natCast_add, Int.natCast_one] at h0
             simp [bk1, bk3, bi0, bir, h0, w2, hq]
             refine ⟨_, _, .inl (h83 _), by simp, ?_⟩
             by_cases ho : 0 ≤ ordK q x
             · rw [if_pos ho] at g
               simp [ho, g]
             · rw [if_neg ho] at g
               simp [ho, w3]
               exact ⟨j + 1 + 1, ⟨by omega, by simpa [prevK, hx] using g⟩, by omega, by simp⟩
     · have bk1 : (x.Kind == 1) = false := by simpa using t1
       by_cases t4 : x.Kind = 3
       · have bk3 : (x.Kind == 3) = true := by simpa using t4
         by_cases t5 : 32 < x.Data
         · have hb := bad (by
             have : ¬ (stubLen x.Data ≤ 32) := by
               have e33 : IntKind.i64.wrap 33 = 33 := by decide
               unfold stubLen
               split
               · rw [e33]; omega
               · rw [wD]; omega
             rw [hk, if_pos (.inr ⟨t4, by simp [validP, this]⟩)])
           simp [bk1, bk3, t5, hb]
         · have hst : stubLen x.Data = x.Data := by
             unfold stubLen
             rw [if_neg (by omega), wD]
           simp [bk1, bk3, t5, wD]
           refine ⟨_, _, .inl (h70 _ _), by simp, ?_⟩
           cases e8 : validP x.ID x.Data
           · have hb := bad (by rw [hk, if_pos (.inr ⟨t4, by rw [hst]; exact e8⟩)])
             simp [hb]
           · have hz : chkK x l.H.Router = 0 := by
               rw [hk, if_neg]
               rintro (⟨h, _⟩ | ⟨_, h⟩)
               · exact t1 h
               · rw [hst, e8] at h; cases h
             cases i with
             | zero =>
               have g := good0 hz rfl
               have w0 : IntKind.i64.wrap 1 = 1 := by decide
               simp [w0]
               exact ⟨1, ⟨by omega, by simpa [prevK, hx] using g⟩, by omega, by simp⟩
             | succ j =>
               obtain ⟨q, hq, g⟩ := good hz j rfl
               have h83 := fun H => (c83 q x).up' H rfl rfl
               have w2 : IntKind.i64.wrap (j : Int) = j := wrap_in (by omega)
               have w3 : IntKind.i64.wrap ((j : Int) + 1 + 1) = j + 1 + 1 := wrap_in (by omega)
               have h0 : (0 : Int) < ((j + 1 : Nat) : Int) := by omega
               simp only [Int.natCast_add, Int.natCast_one] at h0
               simp [h0, w2, hq]
               refine ⟨_, _, .inl (h83 _), by simp, ?_⟩
               by_cases ho : 0 ≤ ordK q x
               · rw [if_pos ho] at g
                 simp [ho, g]
               · rw [if_neg ho] at g
                 simp [ho, w3]
                 exact ⟨j + 1 + 1, ⟨by omega, by simpa [prevK, hx] using g⟩, by omega, by simp⟩
       · have bk3 : (x.Kind == 3) = false := by simpa using t4
         have hz : chkK x l.H.Router = 0 := by
           rw [hk, if_neg]
           rintro (⟨h, _⟩ | ⟨h, _⟩)
           · exact t1 h
           · exact t4 h
         cases i with
         | zero =>
           have g := good0 hz rfl
           have w0 : IntKind.i64.wrap 1 = 1 := by decide
           simp [bk1, bk3, w0]
           exact ⟨1, ⟨by omega, by simpa [prevK, hx] using g⟩, by omega, by simp⟩
         | succ j =>
           obtain ⟨q, hq, g⟩ := good hz j rfl
           have h83 := fun H => (c83 q x).up' H rfl rfl
           have w2 : IntKind.i64.wrap (j : Int) = j := wrap_in (by omega)
           have w3 : IntKind.i64.wrap ((j : Int) + 1 + 1) = j + 1 + 1 := wrap_in (by omega)
           have h0 : (0 : Int) < ((j + 1 : Nat) : Int) := by omega
           simp only [Int.natCast_add, Int.natCast_one] at h0
           simp [bk1, bk3, h0, w2, hq]
           refine ⟨_, _, .inl (h83 _), by simp, ?_⟩
           by_cases ho : 0 ≤ ordK q x
           · rw [if_pos ho] at g
             simp [ho, g]
           · rw [if_neg ho] at g
             simp [ho, w3]
             exact ⟨j + 1 + 1, ⟨by omega, by simpa [prevK, hx] using g⟩, by omega, by simp⟩
   · have e : l.Links.drop i = [] := List.drop_of_length_le (by omega)
     rw [e] at i2
     simp [chkKs] at i2
     simp [hc, hi, i2]
end Go.Proofs.Ytfngaildaoahpaa

namespace Go.Proofs.Ytfngaildaoahpaa
open Go Go.Am
def prevI (l : List Int) : Nat → Option Int
 | 0 => some 0
 | i + 1 => l[i]?
def hasR (l : Lsa) (i : Nat) : Bool := decide (l.H.Router ∈ l.Att.take i)
theorem hasR_succ {l : Lsa} {i : Nat} {x : Int} (hx : l.Att[i]? = some x) : hasR l (i + 1) = (hasR l i || decide (x = l.H.Router)) := by
 have htk : l.Att.take (i + 1) = l.Att.take i ++ [x] := by rw [List.take_add_one, hx]; rfl
 unfold hasR
 rw [htk]
 by_cases e : x = l.H.Router
 · simp [e]
 · have e' : ¬ l.H.Router = x := fun h => e h.symm
   simp [e, e']
set_option maxHeartbeats 4000000 in
set_option maxRecDepth 10000 in
theorem c47 (l : Lsa) (n : Nat) (hn : l.Att.length = n) (hok : ∀ x ∈ l.Att, inW x) : CFun Try.prog 93 [encA l] [] (.int .i64 (chkAtt l.Att l.H.Router)) [] := by
 refine CFun.intro (tr := []) (fz := []) (n := 51) (rs := [.tmp 2]) Try.func93 rfl (by kernel_rfl) rfl rfl mixed (by kernel_rfl) (by simp) (by simp) ?_
 have hc : (l.Att.length : Int) = n := by omega
 by_cases h64 : (64 : Int) < n
 · have : 64 < l.Att.length := by omega
   simp [hc, h64, chkAtt, this]
 have hs : chkAtt l.Att l.H.Router = if attL 0 l.Att = false then 16 else if memL l.Att l.H.Router = false then 14 else 0 := by rw [chkAtt, if_neg (by omega)]
 rw [hs]
 simp [hc, h64]
 refine LoopK.intro (tr := []) mixed (by kernel_rfl) (fun i : Nat => [(1, .ptr 0 0), (3, .bool (hasR l i)), (4, .int .i64 i)]) (fun _ => [cellsA l])
   (fun i => i ≤ n ∧ ∃ last, prevI l.Att i = some last ∧ attL 0 l.Att = attL last (l.Att.drop i)) (fun i => n - i) 0 ?_ ?_ ?_
 · exact ⟨by simp, 0, rfl, by simp⟩
 · simp [hasR]
 · rintro i ⟨i1, last, i3, i4⟩
   by_cases hi : i < n
   · obtain ⟨x, hx, hd⟩ := get_drop (l := l.Att) (i := i) (by omega)
     obtain ⟨ok1, ok2⟩ := hok x (List.mem_of_getElem? hx)
     rw [hd] at i4
     simp only [attL] at i4
     have w1 : IntKind.i64.wrap ((i : Int) + 1) = i + 1 := wrap_in (by omega)
     have hsu := hasR_succ hx
     clear hd hn
     have fin : attL 0 l.Att = attL x (l.Att.drop (i + 1)) → (i + 1 ≤ n ∧ ∃ last, prevI l.Att (i + 1) = some last ∧ attL 0 l.Att = attL last (l.Att.drop (i + 1))) :=
       fun h => ⟨by omega, x, hx, h⟩
     cases i with
     | zero =>
       simp only [prevI, Option.some.injEq] at i3
       subst i3
       by_cases e0 : x = 0
       · rw [if_pos (by omega)] at i4
         simp [hc, hi, hx, e0, i4]
       · rw [if_neg (by omega)] at i4
         have b0 : (x == 0) = false := by simpa using e0
         have w0 : IntKind.i64.wrap 1 = 1 := by decide
         by_cases er : x = l.H.Router
         · have br : (x == l.H.Router) = true := by simpa using er
           simp [hc, hi, hx, b0, br, w0]
           exact ⟨1, fin i4, by omega, by rw [hsu]; simp [er], by simp⟩
         · have br : (x == l.H.Router) = false := by simpa using er
           simp [hc, hi, hx, b0, br, w0]
           exact ⟨1, fin i4, by omega, by rw [hsu]; simp [er], by simp⟩
     | succ j =>
       simp only [prevI] at i3
       obtain ⟨lk1, lk2⟩ := hok last (List.mem_of_getElem? i3)
       have w2 : IntKind.i64.wrap (j : Int) = j := wrap_in (by omega)
       have h0 : (0 : Int) < ((j + 1 : Nat) : Int) := by omega
       simp only [Int.natCast_add, Int.natCast_one] at h0 w1
       have hj1 : (j : Int) + 1 < n := by omega
       have hj2 : (0 : Int) ≤ (j : Int) + 1 := by omega
       by_cases e0 : x = 0
       · rw [if_pos (by omega)] at i4
         simp [hc, hi, hx, e0, i4, hj1, hj2]
       · have b0 : (x == 0) = false := by simpa using e0
         by_cases ho : x ≤ last
         · rw [if_pos ho] at i4
           simp [hc, hi, hx, hj1, hj2, b0, h0, w2, i3, ho, i4]
         · rw [if_neg ho] at i4
           by_cases er : x = l.H.Router
           · have br : (x == l.H.Router) = true := by simpa using er
             simp [hc, hi, hx, hj1, hj2, b0, h0, w2, i3, ho, br, w1]
             exact ⟨j + 1 + 1, fin i4, by omega, by rw [hsu]; simp [er], by simp⟩
           · have br : (x == l.H.Router) = false := by simpa using er
             simp [hc, hi, hx, hj1, hj2, b0, h0, w2, i3, ho, br, w1]
             exact ⟨j + 1 + 1, fin i4, by omega, by rw [hsu]; simp [er], by simp⟩
   · have e : l.Att.drop i = [] := List.drop_of_length_le (by omega)
     have ht : l.Att.take i = l.Att := List.take_of_length_le (by omega)
     rw [e] at i4
     simp [attL] at i4
     have hm : memL l.Att l.H.Router = hasR l i := by unfold hasR memL; rw [ht]
     generalize hasR l i = has at hm
     cases has <;> simp [hc, hi, i4, hm]
def okA (l : Lsa) : Prop := okH l.H ∧ (∀ x ∈ l.Links, okK x) ∧ (∀ x ∈ l.Att, inW x) ∧ inI l.Cost ∧ inW l.Fwd ∧ inI l.Tag ∧ l.Links.length < 8796093022208 ∧ l.Att.length < 140737488355328
set_option maxHeartbeats 2000000 in
set_option maxRecDepth 10000 in
theorem c14 (l : Lsa) (ok : okA l) : CFun Try.prog 73 [encA l] [] (.int .i64 (chkA l)) [] := by
 refine CFun.intro (tr := []) (fz := []) (n := 34) (rs := [.tmp 2]) Try.func73 rfl (by kernel_rfl) rfl rfl mixed (by kernel_rfl) (by simp) (by simp) ?_
 obtain ⟨okh, okl, oka, _⟩ := ok
 have h34 := (c34 l.H okh.2.1).up' [cellsA l] rfl rfl
 have h48 : ∀ n lo hi H, CFun Try.prog 94 [.int .i64 n, .int .i64 lo, .int .i64 hi] H (.bool (inR n lo hi)) H := fun n lo hi H => (c48 n lo hi).up' H rfl rfl
 have h46 := fun rest => (c46 l _ rfl okl).up' (cellsA l :: rest) rfl rfl
 have h47 := fun rest => (c47 l _ rfl oka).up' (cellsA l :: rest) rfl rfl
 by_cases e0 : chkH l.H = 0
 · have hty : inR l.H.Ty 1 5 = true := by
     cases hq : inR l.H.Ty 1 5
     · simp [chkH, hq] at e0
     · rfl
   have h45 := (c45 l hty).up' [cellsA l] rfl rfl
   rw [e0] at h34
   have hk : chkA l = if forB l = true then 1 else if l.H.Ty = 1 then chkLinks l.Links l.H.Router else if l.H.Ty = 2 then chkAtt l.Att l.H.Router else if inR l.Cost 0 16777216 = false ∨ inR l.Tag 0 4294967295 = false then 5 else 0 := by
     rw [chkA, e0]; rfl
   rw [hk]
   generalize chkLinks l.Links l.H.Router = v46 at h46 ⊢
   generalize chkAtt l.Att l.H.Router = v47 at h47 ⊢
   generalize forB l = v45 at h45 ⊢
   simp
   refine ⟨_, _, .inl h34, trivial, ?_⟩
   simp
   refine ⟨_, _, .inl h45, trivial, ?_⟩
   cases v45
   · by_cases t1 : l.H.Ty = 1
     · have b1 : (l.H.Ty == 1) = true := by simpa using t1
       simp [b1]
       refine ⟨_, _, .inl (h46 _), trivial, ?_⟩
       simp [t1]
     · have b1 : (l.H.Ty == 1) = false := by simpa using t1
       by_cases t2 : l.H.Ty = 2
       · have b2 : (l.H.Ty == 2) = true := by simpa using t2
         simp [b1, b2]
         refine ⟨_, _, .inl (h47 _), trivial, ?_⟩
         simp [t1, t2]
       · have b2 : (l.H.Ty == 2) = false := by simpa using t2
         simp [b1, b2]
         refine ⟨_, _, .inl (h48 _ _ _ _), trivial, ?_⟩
         cases e1 : inR l.Cost 0 16777216
         · simp [t1, t2]
         · simp
           refine ⟨_, _, .inl (h48 _ _ _ _), trivial, ?_⟩
           cases e2 : inR l.Tag 0 4294967295 <;> simp [t1, t2]
   · simp
 · have hk : chkA l = chkH l.H := by rw [chkA, if_pos e0]
   rw [hk]
   simp
   refine ⟨_, _, .inl h34, trivial, ?_⟩
   simp [e0]
def csL : List CTy := [.int .i64, .int .u32, .int .u32, .int .i64]
def csA : List CTy := csH ++ [.bool, .bool, .sl true 24 csL, .sl false 4 [.int .u32], .int .i64, .bool, .int .u32, .int .i64]
def tyA : Bool × List CTy := (true, csA)
theorem dec_K {cs : List AVal} (h : Rds csL cs) : ∃ x : { x : Lnk // okK x }, AVal.agg cs = encK x.1 := by
 obtain ⟨a1, r, rfl, h, _⟩ := Rds_int h
 obtain ⟨a2, r, rfl, h, w2⟩ := Rds_int h
 obtain ⟨a3, r, rfl, h, w3⟩ := Rds_int h
 obtain ⟨a4, r, rfl, h, _⟩ := Rds_int h
 obtain rfl := Rds_nil h
 exact ⟨⟨⟨a1, a2, a3, a4⟩, wf_u32 w2, wf_u32 w3⟩, rfl⟩
end Go.Proofs.Ytfngaildaoahpaa

namespace Go.Proofs.Ytfngaildaoahpaa
open Go Go.Am
def sameB (a b : Lsa) : Bool := decide (keyH a.H = keyH b.H ∧ a.Border = b.Border ∧ a.Boundary = b.Boundary ∧ a.Links = b.Links ∧ a.Att = b.Att ∧ a.Cost = b.Cost ∧ a.Second = b.Second ∧ a.Fwd = b.Fwd ∧ a.Tag = b.Tag)
end Go.Proofs.Ytfngaildaoahpaa

namespace Go.Proofs.Ytfngaildaoahpaa
open Go Go.Am
end Go.Proofs.Ytfngaildaoahpaa

namespace Go.Proofs.Ytfngaildaoahpaa
open Go Go.Am
@[simp] def encP (p : Int × Int) : AVal := .agg [.int .u32 p.1, .int .i64 p.2]
end Go.Proofs.Ytfngaildaoahpaa
