import Derived.Test.YthonenmafbpbkaaFXDS14
set_option linter.unusedSimpArgs false
set_option linter.unusedVariables false
namespace Go.Proofs.Ythonenmafbpbkaa
open Go Go.Am
theorem inR_iff (n lo hi : Int) : inR n lo hi = true ↔ lo ≤ n ∧ n ≤ hi := by simp [inR]
theorem hasP_ty (t : Int) (h : inR t 1 5 = true) : hasP t = true ↔ ¬ (t = 1 ∨ t = 4) := by
 rw [inR_iff] at h
 simp only [hasP, Bool.or_eq_true, decide_eq_true_eq]
 omega
set_option maxHeartbeats 4000000 in
set_option maxRecDepth 10000 in
theorem c34 (h : Hdr) (hid : inW h.ID) : CFun Try.prog 97 [encH h] [] (.int .i64 (chkH h)) [] := by
 obtain ⟨A, hA⟩ : ∃ A : Nat, h.ID = A := ⟨h.ID.toNat, by have := hid.1; omega⟩
 have hA2 : A < 2 ^ 32 := by have := hid.2; omega
 refine CFun.intro (tr := []) (fz := []) (n := 82) (rs := [.tmp 2]) Try.func97 rfl (by kernel_rfl) rfl rfl mixed (by kernel_rfl) (by simp) (by simp) ?_
 have h48 : ∀ n lo hi H, CFun Try.prog 101 [.int .i64 n, .int .i64 lo, .int .i64 hi] H (.bool (inR n lo hi)) H := fun n lo hi H => (c48 n lo hi).up' H rfl rfl
 have h70 : ∀ H, CFun Try.prog 112 [.int .u32 h.ID, .int .i64 h.Len] H (.bool (validP h.ID h.Len)) H := fun H => by
   rw [hA]; exact (c70 A hA2 h.Len).up' H rfl rfl
 simp
 refine ⟨_, _, .inl (h48 _ _ _ _), trivial, ?_⟩
 cases e1 : inR h.Ty 1 5
 · simp [chkH, e1]
 simp
 by_cases e2 : h.Router = 0
 · simp [chkH, e1, e2]
 simp [e2]
 refine ⟨_, _, .inl (h48 _ _ _ _), trivial, ?_⟩
 cases e3 : inR h.Seq 1 2147483647
 · simp [chkH, e1, e2, e3]
 simp
 refine ⟨_, _, .inl (h48 _ _ _ _), trivial, ?_⟩
 cases e4 : inR h.Age 0 3600
 · simp [chkH, e1, e2, e3, e4]
 simp
 refine ⟨_, _, .inl (h48 _ _ _ _), trivial, ?_⟩
 cases e5 : inR h.Sum 0 65535
 · simp [chkH, e1, e2, e3, e4, e5]
 have hk : chkH h = if inR h.Len 0 (if hasP h.Ty = true then 32 else 0) = false then 5 else if h.Ty = 1 ∧ h.ID ≠ h.Router then 14 else if (h.Ty = 3 ∨ h.Ty = 5) ∧ validP h.ID h.Len = false then 1 else if (h.Ty = 2 ∨ h.Ty = 4) ∧ h.ID = 0 then 1 else 0 := by
   simp [chkH, e1, e2, e3, e4, e5]
 have hp := hasP_ty h.Ty e1
 by_cases t1 : h.Ty = 1
 · have hp' : hasP h.Ty = false := by
     cases hq : hasP h.Ty
     · rfl
     · exact (hp.1 hq (.inl t1)).elim
   rw [hp'] at hk
   by_cases e6 : h.Len = 0
   · have hr : inR h.Len 0 0 = true := (inR_iff _ _ _).2 (by omega)
     simp only [Bool.false_eq_true, if_false, hr] at hk
     by_cases e7 : h.ID = h.Router
     · simp [hk, t1, e6, e7]
     · simp [hk, t1, e6, e7]
   · have hr : inR h.Len 0 0 = false := by
       cases hq : inR h.Len 0 0
       · rfl
       · have := (inR_iff _ _ _).1 hq; omega
     simp only [Bool.false_eq_true, if_false, hr] at hk
     simp [hk, t1, e6]
 by_cases t4 : h.Ty = 4
 · have hp' : hasP h.Ty = false := by
     cases hq : hasP h.Ty
     · rfl
     · exact (hp.1 hq (.inr t4)).elim
   rw [hp'] at hk
   by_cases e6 : h.Len = 0
   · have hr : inR h.Len 0 0 = true := (inR_iff _ _ _).2 (by omega)
     simp only [Bool.false_eq_true, if_false, hr] at hk
     by_cases e9 : h.ID = 0 <;> simp [hk, t4, e6, e9]
   · have hr : inR h.Len 0 0 = false := by
       cases hq : inR h.Len 0 0
       · rfl
       · have := (inR_iff _ _ _).1 hq; omega
     simp only [Bool.false_eq_true, if_false, hr] at hk
     simp [hk, t4, e6]
 have hp' : hasP h.Ty = true := hp.2 (by omega)
 rw [hp'] at hk
 have b1 : (h.Ty == 1) = false := by simpa using t1
 have b4 : (h.Ty == 4) = false := by simpa using t4
 simp [b1, b4]
 refine ⟨_, _, .inl (h48 _ _ _ _), trivial, ?_⟩
 cases e6 : inR h.Len 0 32
 · simp [hk, e6]
 simp only [if_true, e6, Bool.true_eq_false, if_false] at hk
 by_cases t3 : h.Ty = 3
 · simp [t3]
   refine ⟨_, _, .inl (h70 _), trivial, ?_⟩
   cases e8 : validP h.ID h.Len <;> simp [hk, t3, e8]
 by_cases t5 : h.Ty = 5
 · simp [t5]
   refine ⟨_, _, .inl (h70 _), trivial, ?_⟩
   cases e8 : validP h.ID h.Len <;> simp [hk, t5, e8]
 by_cases t2 : h.Ty = 2
 · by_cases e9 : h.ID = 0 <;> simp [hk, t2, e9]
 simp [hk, t1, t2, t3, t4, t5]
set_option maxHeartbeats 2000000 in
set_option maxRecDepth 10000 in
theorem c83 (a b : Lnk) : CFun Try.prog 113 [encK a, encK b] [] (.int .i64 (ordK a b)) [] := by
 refine CFun.intro (tr := []) (fz := []) (n := 30) (rs := [.tmp 4]) Try.func113 rfl (by kernel_rfl) rfl rfl mixed (by kernel_rfl) (by simp) (by simp) ?_
 have h52 : ∀ x y H, CFun Try.prog 91 [.int .i64 x, .int .i64 y] H (.int .i64 (cmpI x y)) H := fun x y H => (c52 x y).up' H rfl rfl
 have h63 : ∀ x y H, CFun Try.prog 105 [.int .u32 x, .int .u32 y] H (.int .i64 (cmpI x y)) H := fun x y H => (c63 x y).up' H rfl rfl
 have nz : ∀ {x y : Int}, x ≠ y → cmpI x y ≠ 0 := fun h h' => h ((cmpI_zero _ _).1 h')
 have zz : ∀ {x y : Int}, x = y → cmpI x y = 0 := fun h => (cmpI_zero _ _).2 h
 by_cases e1 : a.Kind = b.Kind
 case neg =>
   have b1 : (a.Kind != b.Kind) = true := by simpa using e1
   simp [b1]
   refine ⟨_, _, .inl (h52 _ _ _), by simp, ?_⟩
   simp [ordK, orL, nz e1]
 have b1 : (a.Kind != b.Kind) = false := by simpa using e1
 by_cases e2 : a.ID = b.ID
 case neg =>
   have b2 : (a.ID != b.ID) = true := by simpa using e2
   simp [b1, b2]
   refine ⟨_, _, .inl (h63 _ _ _), by simp, ?_⟩
   simp [ordK, orL, zz e1, nz e2]
 have b2 : (a.ID != b.ID) = false := by simpa using e2
 simp [b1, b2]
 refine ⟨_, _, .inl (h63 _ _ _), by simp, ?_⟩
 simp [ordK, orL, zz e1, zz e2]
set_option maxHeartbeats 4000000 in
set_option maxRecDepth 10000 in
theorem c45 (l : Lsa) (ht : inR l.H.Ty 1 5 = true) : CFun Try.prog 98 [encA l] [] (.bool (!forB l)) [] := by
 rw [inR_iff] at ht
 refine CFun.intro (tr := []) (fz := []) (n := 55) (rs := [.tmp 2]) Try.func98 rfl (by kernel_rfl) rfl rfl mixed (by kernel_rfl) (by simp) (by simp) ?_
 have hm : memL [3, 4, 5] l.H.Ty = decide (3 ≤ l.H.Ty) := by
   simp only [memL, List.mem_cons, List.not_mem_nil, or_false]
   congr 1
   simp only [eq_iff_iff]
   omega
 simp only [forB, memL1, hm]
 by_cases t1 : l.H.Ty = 1
 · by_cases a1 : 0 < l.Att.length
   · simp [t1, a1]
   · by_cases a2 : l.Cost = 0
     · cases a3 : l.Second
       · by_cases a4 : l.Fwd = 0
         · by_cases a5 : l.Tag = 0 <;> simp [t1, a1, a2, a3, a4, a5]
         · simp [t1, a1, a2, a3, a4]
       · simp [t1, a1, a2, a3]
     · simp [t1, a1, a2]
 · have b1 : (l.H.Ty != 1) = true := by simpa using t1
   cases q1 : l.Border
   case true => simp [b1, t1, q1]
   cases q2 : l.Boundary
   case true => simp [b1, t1, q1, q2]
   by_cases q3 : 0 < l.Links.length
   · simp [b1, t1, q1, q2, q3]
   by_cases t2 : l.H.Ty = 2
   · by_cases a2 : l.Cost = 0
     · cases a3 : l.Second
       · by_cases a4 : l.Fwd = 0
         · by_cases a5 : l.Tag = 0 <;> simp [t2, q1, q2, q3, a2, a3, a4, a5]
         · simp [t2, q1, q2, q3, a2, a3, a4]
       · simp [t2, q1, q2, q3, a2, a3]
     · simp [t2, q1, q2, q3, a2]
   · have b2 : (l.H.Ty != 2) = true := by simpa using t2
     have b3 : ¬ (l.H.Ty < 3) := by omega
     have b3' : 3 ≤ l.H.Ty := by omega
     by_cases a1 : 0 < l.Att.length
     · simp [b1, b2, t1, t2, q1, q2, q3, a1]
     · by_cases t5 : l.H.Ty = 5
       · simp [t5, q1, q2, q3, a1]
       · have b5 : (l.H.Ty == 5) = false := by simpa using t5
         cases a3 : l.Second
         · by_cases a4 : l.Fwd = 0
           · by_cases a5 : l.Tag = 0 <;> simp [b1, b2, b3, b3', b5, t1, t2, t5, q1, q2, q3, a1, a3, a4, a5]
           · simp [b1, b2, b3, b3', b5, t1, t2, t5, q1, q2, q3, a1, a3, a4]
         · simp [b1, b2, b3, b3', b5, t1, t2, t5, q1, q2, q3, a1, a3]
end Go.Proofs.Ythonenmafbpbkaa

namespace Go.Proofs.Ythonenmafbpbkaa
open Go Go.Am
def okK (x : Lnk) : Prop := inW x.ID ∧ inW x.Data
set_option maxHeartbeats 4000000 in
set_option maxRecDepth 10000 in
theorem c46 (l : Lsa) (n : Nat) (hn : l.Links.length = n) (hok : ∀ x ∈ l.Links, okK x) : CFun Try.prog 99 [encA l] [] (.int .i64 (chkLinks l.Links l.H.Router)) [] := by
 refine CFun.intro (tr := []) (fz := []) (n := 75) (rs := [.tmp 2]) Try.func99 rfl (by kernel_rfl) rfl rfl mixed (by kernel_rfl) (by simp) (by simp) ?_
 have h48 : ∀ n lo hi H, CFun Try.prog 101 [.int .i64 n, .int .i64 lo, .int .i64 hi] H (.bool (inR n lo hi)) H := fun n lo hi H => (c48 n lo hi).up' H rfl rfl
 have hc : (l.Links.length : Int) = n := by omega
 by_cases h64 : (64 : Int) < n
 · have : 64 < l.Links.length := by omega
   simp [hc, h64, chkLinks, this]
 have hs : chkLinks l.Links l.H.Router = chkKs l.H.Router none l.Links := by rw [chkLinks, if_neg (by omega)]
 rw [hs]
 simp [hc, h64]
 refine LoopK.intro (tr := []) mixed (by kernel_rfl) (fun i : Nat => [(1, .ptr 0 0), (3, .int .i64 i)]) (fun _ => [cellsA l]) (fun i => i ≤ n ∧ chkKs l.H.Router none l.Links = chkKs l.H.Router (prevK l.Links i) (l.Links.drop i)) (fun i => n - i) 0 ?_ ?_ ?_
 · simp [prevK]
 · simp
 · rintro i ⟨i1, i2⟩
   by_cases hi : i < n
   · obtain ⟨x, hx, hd⟩ := get_drop (l := l.Links) (i := i) (by omega)
     obtain ⟨ok1, ok2⟩ := hok x (List.mem_of_getElem? hx)
     rw [hd] at i2
     simp only [chkKs] at i2
     have w1 : IntKind.i64.wrap ((i : Int) + 1) = i + 1 := wrap_in (by omega)
     have hx' : ((i : Int).toNat) = i := by omega
     simp [hc, hi, hx]
     refine ⟨_, _, .inl (h48 _ _ _ _), by simp, ?_⟩
     cases e1 : inR x.Kind 1 3
     · have hk : chkK x l.H.Router = 15 := by simp [chkK, e1]
       simp [hk] at i2
       simp [i2]
     simp
     refine ⟨_, _, .inl (h48 _ _ _ _), by simp, ?_⟩
     cases e2 : inR x.Cost 1 65535
     · have hk : chkK x l.H.Router = 5 := by simp [chkK, e1, e2]
       simp [hk] at i2
       simp [i2]
     have hk : chkK x l.H.Router = if (x.Kind = 1 ∧ (x.ID = 0 ∨ x.ID = l.H.Router)) ∨ (x.Kind = 3 ∧ validP x.ID (stubLen x.Data) = false) then 1 else 0 := by simp [chkK, e1, e2]
     obtain ⟨A, hA⟩ : ∃ A : Nat, x.ID = A := ⟨x.ID.toNat, by have := ok1.1; omega⟩
     have hA2 : A < 2 ^ 32 := by have := ok1.2; omega
     have h70 : ∀ d H, CFun Try.prog 112 [.int .u32 x.ID, .int .i64 d] H (.bool (validP x.ID d)) H := fun d H => by
       rw [hA]; exact (c70 A hA2 d).up' H rfl rfl
     have wD : IntKind.i64.wrap x.Data = x.Data := wrap_in (by have := ok2.1; have := ok2.2; omega)
     have good : chkK x l.H.Router = 0 → ∀ j : Nat, j + 1 = i → ∃ q, l.Links[j]? = some q ∧ chkKs l.H.Router none l.Links = if 0 ≤ ordK q x then 16 else chkKs l.H.Router (some x) (l.Links.drop (i + 1)) := by
       intro h0 j hj
       obtain ⟨q, hq, _⟩ := get_drop (l := l.Links) (i := j) (by omega)
       subst hj
       rw [if_neg (by simp [h0])] at i2
       simp only [prevK, hq] at i2
       exact ⟨q, hq, i2⟩
     have good0 : chkK x l.H.Router = 0 → i = 0 → chkKs l.H.Router none l.Links = chkKs l.H.Router (some x) (l.Links.drop (i + 1)) := by
       intro h0 hi0
       rw [if_neg (by simp [h0])] at i2
       subst hi0
       simpa [prevK] using i2
     have bad : chkK x l.H.Router = 1 → chkKs l.H.Router none l.Links = 1 := by
       intro h0
       rw [if_pos (by simp [h0])] at i2
       rw [i2, h0]
     clear i2 hd hn
     by_cases t1 : x.Kind = 1
     · by_cases t2 : x.ID = 0
       · have hb := bad (by rw [hk, if_pos (.inl ⟨t1, .inl t2⟩)])
         simp [t1, t2, hb]
       · by_cases t3 : x.ID = l.H.Router
         · have hb := bad (by rw [hk, if_pos (.inl ⟨t1, .inr t3⟩)])
           simp [t1, t3, hb]
         · have hz : chkK x l.H.Router = 0 := by rw [hk, if_neg (by omega)]
           have bk1 : (x.Kind == 1) = true := by simpa using t1
           have bk3 : (x.Kind == 3) = false := by simp [t1]
           have bi0 : (x.ID == 0) = false := by simpa using t2
           have bir : (x.ID == l.H.Router) = false := by simpa using t3
           cases i with
           | zero =>
             have g := good0 hz rfl
             have w0 : IntKind.i64.wrap 1 = 1 := by decide
             simp [bk1, bk3, bi0, bir, w0]
             exact ⟨1, ⟨by omega, by simpa [prevK, hx] using g⟩, by omega, by simp⟩
           | succ j =>
             obtain ⟨q, hq, g⟩ := good hz j rfl
             have h83 := fun H => (c83 q x).up' H rfl rfl
             have w2 : IntKind.i64.wrap (j : Int) = j := wrap_in (by omega)
             have w3 : IntKind.i64.wrap ((j : Int) + 1 + 1) = j + 1 + 1 := wrap_in (by omega)
             have h0 : (0 : Int) < ((j + 1 : Nat) : Int) := by omega
             simp only [Int.natCast_add, Int.natCast_one] at h0
             simp [bk1, bk3, bi0, bir, h0, w2, hq]
             refine ⟨_, _, .inl (h83 _), by simp, ?_⟩
             by_cases ho : 0 ≤ ordK q x
             · rw [if_pos ho] at g
               simp [ho, g]
             · rw [if_neg ho] at g
               simp [ho, w3]
               exact ⟨j + 1 + 1, ⟨by omega, by simpa [prevK, hx] using g⟩, by omega, by simp⟩
     · have bk1 : (x.Kind == 1) = false := by simpa using t1
       by_cases t4 : x.Kind = 3
       · have bk3 : (x.Kind == 3) = true := by simpa using t4
         by_cases t5 : 32 < x.Data
         · have hb := bad (by
             have : ¬ (stubLen x.Data ≤ 32) := by
               have e33 : IntKind.i64.wrap 33 = 33 := by decide
               unfold stubLen
               split
               · rw [e33]; omega
               · rw [wD]; omega
             rw [hk, if_pos (.inr ⟨t4, by simp [validP, this]⟩)])
           simp [bk1, bk3, t5, hb]
         · have hst : stubLen x.Data = x.Data := by
             unfold stubLen
             rw [if_neg (by omega), wD]
           simp [bk1, bk3, t5, wD]
           refine ⟨_, _, .inl (h70 _ _), by simp, ?_⟩
           cases e8 : validP x.ID x.Data
           · have hb := bad (by rw [hk, if_pos (.inr ⟨t4, by rw [hst]; exact e8⟩)])
             simp [hb]
           · have hz : chkK x l.H.Router = 0 := by
               rw [hk, if_neg]
               rintro (⟨h, _⟩ | ⟨_, h⟩)
               · exact t1 h
               · rw [hst, e8] at h; cases h
             cases i with
             | zero =>
               have g := good0 hz rfl
               have w0 : IntKind.i64.wrap 1 = 1 := by decide
               simp [w0]
               exact ⟨1, ⟨by omega, by simpa [prevK, hx] using g⟩, by omega, by simp⟩
             | succ j =>
               obtain ⟨q, hq, g⟩ := good hz j rfl
               have h83 := fun H => (c83 q x).up' H rfl rfl
               have w2 : IntKind.i64.wrap (j : Int) = j := wrap_in (by omega)
               have w3 : IntKind.i64.wrap ((j : Int) + 1 + 1) = j + 1 + 1 := wrap_in (by omega)
               have h0 : (0 : Int) < ((j + 1 : Nat) : Int) := by omega
               simp only [Int.natCast_add, Int.natCast_one] at h0
               simp [h0, w2, hq]
               refine ⟨_, _, .inl (h83 _), by simp, ?_⟩
               by_cases ho : 0 ≤ ordK q x
               · rw [if_pos ho] at g
                 simp [ho, g]
               · rw [if_neg ho] at g
                 simp [ho, w3]
                 exact ⟨j + 1 + 1, ⟨by omega, by simpa [prevK, hx] using g⟩, by omega, by simp⟩
       · have bk3 : (x.Kind == 3) = false := by simpa using t4
         have hz : chkK x l.H.Router = 0 := by
           rw [hk, if_neg]
           rintro (⟨h, _⟩ | ⟨h, _⟩)
           · exact t1 h
           · exact t4 h
         cases i with
         | zero =>
           have g := good0 hz rfl
           have w0 : IntKind.i64.wrap 1 = 1 := by decide
           simp [bk1, bk3, w0]
           exact ⟨1, ⟨by omega, by simpa [prevK, hx] using g⟩, by omega, by simp⟩
         | succ j =>
           obtain ⟨q, hq, g⟩ := good hz j rfl
           have h83 := fun H => (c83 q x).up' H rfl rfl
           have w2 : IntKind.i64.wrap (j : Int) = j := wrap_in (by omega)
           have w3 : IntKind.i64.wrap ((j : Int) + 1 + 1) = j + 1 + 1 := wrap_in (by omega)
           have h0 : (0 : Int) < ((j + 1 : Nat) : Int) := by omega
           simp only [Int.natCast_add, Int.natCast_one] at h0
           simp [bk1, bk3, h0, w2, hq]
           refine ⟨_, _, .inl (h83 _), by simp, ?_⟩
           by_cases ho : 0 ≤ ordK q x
           · rw [if_pos ho] at g
             simp [ho, g]
           · rw [if_neg ho] at g
             simp [ho, w3]
             exact ⟨j + 1 + 1, ⟨by omega, by simpa [prevK, hx] using g⟩, by omega, by simp⟩
   · have e : l.Links.drop i = [] := List.drop_of_length_le (by omega)
     rw [e] at i2
     simp [chkKs] at i2
     simp [hc, hi, i2]
end Go.Proofs.Ythonenmafbpbkaa

namespace Go.Proofs.Ythonenmafbpbkaa
open Go Go.Am
def prevI (l : List Int) : Nat → Option Int
 | 0 => some 0
 | i + 1 => l[i]?
def hasR (l : Lsa) (i : Nat) : Bool := decide (l.H.Router ∈ l.Att.take i)
theorem hasR_succ {l : Lsa} {i : Nat} {x : Int} (hx : l.Att[i]? = some x) : hasR l (i + 1) = (hasR l i || decide (x = l.H.Router)) := by
 have htk : l.Att.take (i + 1) = l.Att.take i ++ [x] := by rw [List.take_add_one, hx]; rfl
 unfold hasR
 rw [htk]
 by_cases e : x = l.H.Router
 · simp [e]
 · have e' : ¬ l.H.Router = x := fun h => e h.symm
   simp [e, e']
set_option maxHeartbeats 4000000 in
set_option maxRecDepth 10000 in
theorem c47 (l : Lsa) (n : Nat) (hn : l.Att.length = n) (hok : ∀ x ∈ l.Att, inW x) : CFun Try.prog 100 [encA l] [] (.int .i64 (chkAtt l.Att l.H.Router)) [] := by
 refine CFun.intro (tr := []) (fz := []) (n := 51) (rs := [.tmp 2]) Try.func100 rfl (by kernel_rfl) rfl rfl mixed (by kernel_rfl) (by simp) (by simp) ?_
 have hc : (l.Att.length : Int) = n := by omega
 by_cases h64 : (64 : Int) < n
 · have : 64 < l.Att.length := by omega
   simp [hc, h64, chkAtt, this]
 have hs : chkAtt l.Att l.H.Router = if attL 0 l.Att = false then 16 else if memL l.Att l.H.Router = false then 14 else 0 := by rw [chkAtt, if_neg (by omega)]
 rw [hs]
 simp [hc, h64]
 refine LoopK.intro (tr := []) mixed (by kernel_rfl) (fun i : Nat => [(1, .ptr 0 0), (3, .bool (hasR l i)), (4, .int .i64 i)]) (fun _ => [cellsA l])
   (fun i => i ≤ n ∧ ∃ last, prevI l.Att i = some last ∧ attL 0 l.Att = attL last (l.Att.drop i)) (fun i => n - i) 0 ?_ ?_ ?_
 · exact ⟨by simp, 0, rfl, by simp⟩
 · simp [hasR]
 · rintro i ⟨i1, last, i3, i4⟩
   by_cases hi : i < n
   · obtain ⟨x, hx, hd⟩ := get_drop (l := l.Att) (i := i) (by omega)
     obtain ⟨ok1, ok2⟩ := hok x (List.mem_of_getElem? hx)
     rw [hd] at i4
     simp only [attL] at i4
     have w1 : IntKind.i64.wrap ((i : Int) + 1) = i + 1 := wrap_in (by omega)
     have hsu := hasR_succ hx
     clear hd hn
     have fin : attL 0 l.Att = attL x (l.Att.drop (i + 1)) → (i + 1 ≤ n ∧ ∃ last, prevI l.Att (i + 1) = some last ∧ attL 0 l.Att = attL last (l.Att.drop (i + 1))) :=
       fun h => ⟨by omega, x, hx, h⟩
     cases i with
     | zero =>
       simp only [prevI, Option.some.injEq] at i3
       subst i3
       by_cases e0 : x = 0
       · rw [if_pos (by omega)] at i4
         simp [hc, hi, hx, e0, i4]
       · rw [if_neg (by omega)] at i4
         have b0 : (x == 0) = false := by simpa using e0
         have w0 : IntKind.i64.wrap 1 = 1 := by decide
         by_cases er : x = l.H.Router
         · have br : (x == l.H.Router) = true := by simpa using er
           simp [hc, hi, hx, b0, br, w0]
           exact ⟨1, fin i4, by omega, by rw [hsu]; simp [er], by simp⟩
         · have br : (x == l.H.Router) = false := by simpa using er
           simp [hc, hi, hx, b0, br, w0]
           exact ⟨1, fin i4, by omega, by rw [hsu]; simp [er], by simp⟩
     | succ j =>
       simp only [prevI] at i3
       obtain ⟨lk1, lk2⟩ := hok last (List.mem_of_getElem? i3)
       have w2 : IntKind.i64.wrap (j : Int) = j := wrap_in (by omega)
       have h0 : (0 : Int) < ((j + 1 : Nat) : Int) := by omega
       simp only [Int.natCast_add, Int.natCast_one] at h0 w1
       have hj1 : (j : Int) + 1 < n := by omega
       have hj2 : (0 : Int) ≤ (j : Int) + 1 := by omega
       by_cases e0 : x = 0
       · rw [if_pos (by omega)] at i4
         simp [hc, hi, hx, e0, i4, hj1, hj2]
       · have b0 : (x == 0) = false := by simpa using e0
         by_cases ho : x ≤ last
         · rw [if_pos ho] at i4
           simp [hc, hi, hx, hj1, hj2, b0, h0, w2, i3, ho, i4]
         · rw [if_neg ho] at i4
           by_cases er : x = l.H.Router
           · have br : (x == l.H.Router) = true := by simpa using er
             simp [hc, hi, hx, hj1, hj2, b0, h0, w2, i3, ho, br, w1]
             exact ⟨j + 1 + 1, fin i4, by omega, by rw [hsu]; simp [er], by simp⟩
           · have br : (x == l.H.Router) = false := by simpa using er
             simp [hc, hi, hx, hj1, hj2, b0, h0, w2, i3, ho, br, w1]
             exact ⟨j + 1 + 1, fin i4, by omega, by rw [hsu]; simp [er], by simp⟩
   · have e : l.Att.drop i = [] := List.drop_of_length_le (by omega)
     have ht : l.Att.take i = l.Att := List.take_of_length_le (by omega)
     rw [e] at i4
     simp [attL] at i4
     have hm : memL l.Att l.H.Router = hasR l i := by unfold hasR memL; rw [ht]
     generalize hasR l i = has at hm
     cases has <;> simp [hc, hi, i4, hm]
def okA (l : Lsa) : Prop := okH l.H ∧ (∀ x ∈ l.Links, okK x) ∧ (∀ x ∈ l.Att, inW x) ∧ inI l.Cost ∧ inW l.Fwd ∧ inI l.Tag ∧ l.Links.length < 8796093022208 ∧ l.Att.length < 140737488355328
set_option maxHeartbeats 2000000 in
set_option maxRecDepth 10000 in
theorem c14 (l : Lsa) (ok : okA l) : CFun Try.prog 68 [encA l] [] (.int .i64 (chkA l)) [] := by
 refine CFun.intro (tr := []) (fz := []) (n := 34) (rs := [.tmp 2]) Try.func68 rfl (by kernel_rfl) rfl rfl mixed (by kernel_rfl) (by simp) (by simp) ?_
 obtain ⟨okh, okl, oka, _⟩ := ok
 have h34 := (c34 l.H okh.2.1).up' [cellsA l] rfl rfl
 have h48 : ∀ n lo hi H, CFun Try.prog 101 [.int .i64 n, .int .i64 lo, .int .i64 hi] H (.bool (inR n lo hi)) H := fun n lo hi H => (c48 n lo hi).up' H rfl rfl
 have h46 := fun rest => (c46 l _ rfl okl).up' (cellsA l :: rest) rfl rfl
 have h47 := fun rest => (c47 l _ rfl oka).up' (cellsA l :: rest) rfl rfl
 by_cases e0 : chkH l.H = 0
 · have hty : inR l.H.Ty 1 5 = true := by
     cases hq : inR l.H.Ty 1 5
     · simp [chkH, hq] at e0
     · rfl
   have h45 := (c45 l hty).up' [cellsA l] rfl rfl
   rw [e0] at h34
   have hk : chkA l = if forB l = true then 1 else if l.H.Ty = 1 then chkLinks l.Links l.H.Router else if l.H.Ty = 2 then chkAtt l.Att l.H.Router else if inR l.Cost 0 16777216 = false ∨ inR l.Tag 0 4294967295 = false then 5 else 0 := by
     rw [chkA, e0]; rfl
   rw [hk]
   generalize chkLinks l.Links l.H.Router = v46 at h46 ⊢
   generalize chkAtt l.Att l.H.Router = v47 at h47 ⊢
   generalize forB l = v45 at h45 ⊢
   simp
   refine ⟨_, _, .inl h34, trivial, ?_⟩
   simp
   refine ⟨_, _, .inl h45, trivial, ?_⟩
   cases v45
   · by_cases t1 : l.H.Ty = 1
     · have b1 : (l.H.Ty == 1) = true := by simpa using t1
       simp [b1]
       refine ⟨_, _, .inl (h46 _), trivial, ?_⟩
       simp [t1]
     · have b1 : (l.H.Ty == 1) = false := by simpa using t1
       by_cases t2 : l.H.Ty = 2
       · have b2 : (l.H.Ty == 2) = true := by simpa using t2
         simp [b1, b2]
         refine ⟨_, _, .inl (h47 _), trivial, ?_⟩
         simp [t1, t2]
       · have b2 : (l.H.Ty == 2) = false := by simpa using t2
         simp [b1, b2]
         refine ⟨_, _, .inl (h48 _ _ _ _), trivial, ?_⟩
         cases e1 : inR l.Cost 0 16777216
         · simp [t1, t2]
         · simp
           refine ⟨_, _, .inl (h48 _ _ _ _), trivial, ?_⟩
           cases e2 : inR l.Tag 0 4294967295 <;> simp [t1, t2]
   · simp
 · have hk : chkA l = chkH l.H := by rw [chkA, if_pos e0]
   rw [hk]
   simp
   refine ⟨_, _, .inl h34, trivial, ?_⟩
   simp [e0]
def csL : List CTy := [.int .i64, .int .u32, .int .u32, .int .i64]
def csA : List CTy := csH ++ [.bool, .bool, .sl true 24 csL, .sl false 4 [.int .u32], .int .i64, .bool, .int .u32, .int .i64]
def tyA : Bool × List CTy := (true, csA)
theorem dec_K {cs : List AVal} (h : Rds csL cs) : ∃ x : { x : Lnk // okK x }, AVal.agg cs = encK x.1 := by
 obtain ⟨a1, r, rfl, h, _⟩ := Rds_int h
 obtain ⟨a2, r, rfl, h, w2⟩ := Rds_int h
 obtain ⟨a3, r, rfl, h, w3⟩ := Rds_int h
 obtain ⟨a4, r, rfl, h, _⟩ := Rds_int h
 obtain rfl := Rds_nil h
 exact ⟨⟨⟨a1, a2, a3, a4⟩, wf_u32 w2, wf_u32 w3⟩, rfl⟩
theorem rd_A {x : AVal} (h : RdA tyA x) : ∃ l : Lsa, x = encA l ∧ okA l := by
 obtain ⟨cs, h1, h2⟩ := h
 obtain ⟨hd, r, rfl, okh, k0⟩ := dec_H h2
 obtain ⟨b1, r, rfl, k1⟩ := Rds_bool k0
 obtain ⟨b2, r, rfl, k2⟩ := Rds_bool k1
 obtain ⟨ls, r, rfl, k3, z1⟩ := Rds_sl (enc := fun x : { x : Lnk // okK x } => encK x.1) k2 (fun y cs e h => by
   obtain ⟨x, hx⟩ := dec_K h
   exact ⟨x, e.trans hx⟩)
 obtain ⟨at_, r, rfl, k4, z2⟩ := Rds_sl (enc := fun x : { x : Int // inW x } => enc32 x.1) k3 (fun y cs e h => by
   obtain ⟨a, r, rfl, h3, w⟩ := Rds_int h
   obtain rfl := Rds_nil h3
   simp at e
   exact ⟨⟨a, wf_u32 w⟩, e.symm⟩)
 obtain ⟨co, r, rfl, k5, w1⟩ := Rds_int k4
 obtain ⟨se, r, rfl, k6⟩ := Rds_bool k5
 obtain ⟨fw, r, rfl, k7, w2⟩ := Rds_int k6
 obtain ⟨tg, r, rfl, k8, w3⟩ := Rds_int k7
 obtain rfl := Rds_nil k8
 refine ⟨⟨hd, b1, b2, ls.map (·.1), at_.map (·.1), co, se, fw, tg⟩, ?_, okh, fun x hx => ?_, fun x hx => ?_, wf_i64 w1, wf_u32 w2, wf_i64 w3, by simp only [reachBytes] at z1; simp; omega, by simp only [reachBytes] at z2; simp; omega⟩
 · rw [if_pos (show tyA.1 = true from rfl)] at h1
   rw [h1]
   simp [csL]
 · obtain ⟨y, _, rfl⟩ := List.mem_map.1 hx
   exact y.2
 · obtain ⟨y, _, rfl⟩ := List.mem_map.1 hx
   exact y.2
end Go.Proofs.Ythonenmafbpbkaa

namespace Go.Proofs.Ythonenmafbpbkaa
open Go Go.Am
end Go.Proofs.Ythonenmafbpbkaa

namespace Go.Proofs.Ythonenmafbpbkaa
open Go Go.Am
end Go.Proofs.Ythonenmafbpbkaa

namespace Go.Proofs.Ythonenmafbpbkaa
open Go Go.Am
@[simp] def encP (p : Int × Int) : AVal := .agg [.int .u32 p.1, .int .i64 p.2]
end Go.Proofs.Ythonenmafbpbkaa

namespace Go.Proofs.Ythonenmafbpbkaa
open Go Go.Am
theorem ofGift {P : Program} {f : FuncId} {args : List AVal} {H H' : List (List AVal)} {x : AVal} (h : CFunO P f args H x H') (ha : args.all (fun y => !y.isOwn) = true) : CFun P f args H x H' := by
 refine ⟨h.1, fun G w cargs h1 h2 h3 h4 h5 => h.2 G w cargs h1 h2 h3 h4 fun i y v hy hv => ⟨h5 i y v hy hv, OwnAt.of_not ?_⟩⟩
 simp only [List.all_eq_true, Bool.not_eq_true'] at ha
 exact ha y (List.mem_of_getElem? hy)
def Acc (b : List Int) (x : AVal) : Prop := x = .sl 1 (b.map enc8) .own ∨ (b = [] ∧ ∃ k, x = .sl k [] .full)
set_option maxHeartbeats 2000000 in
set_option maxRecDepth 10000 in
theorem o61 (n : Nat) (h1 : 1 ≤ n) (hn : n ≤ 8) (b : List Int) (X : AVal) (hX : Acc b X) (hb : b.length < 1099511627000) (y : Int) (H : List (List AVal)) (hH : LeBoxes H.length H H) :
   CFunO Try.prog 117 [X, .int .i64 n, .int .u64 y] H (.sl 1 ((b ++ numB n y).map enc8) .own) H := by
 refine CFunO.intro (tr := [14, 23]) (fz := []) (n := 24) (rs := [.tmp 6]) Try.func117 rfl (by kernel_rfl) rfl rfl mixed (by kernel_rfl) (by simp) ?_
 have w0 : IntKind.i64.wrap ((n : Int) - 1) = n - 1 := wrap_in (by omega)
 simp [w0, -List.map_append]
 refine LoopK.intro (tr := [14, 23]) mixed (by kernel_rfl) (fun q : Nat × List Int × AVal => [(0, q.2.2), (2, .int .u64 y), (7, .int .i64 ((q.1 : Int) - 1))]) (fun _ => H) (fun q => q.1 ≤ n ∧ Acc q.2.1 q.2.2 ∧ q.2.1.length + q.1 = b.length + n ∧ q.2.1 ++ numB q.1 y = b ++ numB n y) (fun q => q.1) (n, b, X) ?_ ?_ ?_
 · exact ⟨Nat.le_refl _, hX, rfl, rfl⟩
 · rcases hX with rfl | ⟨rfl, kk, rfl⟩ <;> simp [hH]
 · rintro ⟨k, out, Y⟩ ⟨k1, k2, k3, k4⟩
   simp only at k1 k2 k3 k4
   cases k with
   | zero =>
     simp only [numB, List.append_nil] at k4
     rcases k2 with rfl | ⟨rfl, kk, rfl⟩
     · simp [k4, hH, -List.map_append]
     · have := congrArg List.length k4
       simp [numB_len] at this
       omega
   | succ k =>
     have w1 : IntKind.i64.wrap (8 * (k : Int)) = 8 * k := wrap_in (by omega)
     have w2 : IntKind.i64.wrap ((k : Int) - 1) = k - 1 := wrap_in (by omega)
     have w3 : IntKind.u64.wrap (8 * (k : Int)) = 8 * k := by rw [wrap_u64]; omega
     have g0 : (0 : Int) ≤ k := by omega
     have g5 : ¬ (8 * (k : Int) < 0) := by omega
     have g6 : min (8 * (k : Int)).toNat IntKind.u64.bits = 8 * k := by
       have : IntKind.u64.bits = 64 := rfl
       omega
     have s1 : out.length + 1 ≤ 140737488355328 := by omega
     have hbt : IntKind.u8.wrap (y.fdiv (2 ^ (8 * k))) = bt y k := rfl
     have hnx : (out ++ [bt y k]) ++ numB k y = b ++ numB n y := by rw [← k4]; simp [numB]
     rcases k2 with rfl | ⟨rfl, kk, rfl⟩
     · simp [w1, w2, w3, g0, g5, g6, s1, hbt, hH]
       exact ⟨k, out ++ [bt y k], _, ⟨by omega, .inl rfl, by simp; omega, hnx⟩, by omega, by simp, by simp, rfl⟩
     · simp [w1, w2, w3, g0, g5, g6, hbt, hH]
       exact ⟨k, [bt y k], _, ⟨by omega, .inl rfl, by simp at k3 ⊢; omega, by simpa using hnx⟩, by omega, by simp, by simp, rfl⟩
end Go.Proofs.Ythonenmafbpbkaa
