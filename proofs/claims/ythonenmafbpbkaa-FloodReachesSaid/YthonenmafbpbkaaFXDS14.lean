import Derived.Test.YthonenmafbpbkaaFXDS7
import Derived.Test.YthonenmafbpbkaaBmU
import Derived.JoinedOf
import Derived.Test.YthonenmafbpbkaaRows
set_option linter.unusedSimpArgs false
set_option linter.unusedVariables false
namespace Go.Proofs.Ythonenmafbpbkaa
open Go Go.Am
def forB (l : Lsa) : Bool :=
 if memL [1] l.H.Ty = false ∧ (l.Border = true ∨ l.Boundary = true ∨ 0 < l.Links.length) then true else
 if memL [2] l.H.Ty = false ∧ 0 < l.Att.length then true else
 if memL [3, 4, 5] l.H.Ty = false ∧ l.Cost ≠ 0 then true else
 !memL [5] l.H.Ty && (l.Second || decide (l.Fwd ≠ 0) || decide (l.Tag ≠ 0))
theorem memL1 (a x : Int) : memL [a] x = decide (x = a) := by simp [memL]
def chkA (l : Lsa) : Int :=
 if chkH l.H ≠ 0 then chkH l.H else if forB l = true then 1 else
 if l.H.Ty = 1 then chkLinks l.Links l.H.Router else if l.H.Ty = 2 then chkAtt l.Att l.H.Router else
 if inR l.Cost 0 16777216 = false ∨ inR l.Tag 0 4294967295 = false then 5 else 0
theorem chkA_len {l : Lsa} (h : chkA l = 0) : l.Links.length ≤ 64 ∧ l.Att.length ≤ 64 := by
 unfold chkA at h
 split at h
 · contradiction
 · split at h
   · cases h
   · rename_i h2
     have hL : l.H.Ty ≠ 1 → l.Links.length = 0 := by
       intro hne
       by_cases e : 0 < l.Links.length
       · exact (h2 (by simp [forB, memL1, hne, e])).elim
       · omega
     have hA : l.H.Ty ≠ 2 → l.Att.length = 0 := by
       intro hne
       by_cases e : 0 < l.Att.length
       · refine (h2 ?_).elim
         unfold forB
         split
         · rfl
         · rw [if_pos ⟨by simp [memL1, hne], e⟩]
       · omega
     split at h
     · rename_i t1
       have := hA (by omega)
       unfold chkLinks at h
       split at h
       · cases h
       · omega
     · rename_i t1
       have := hL t1
       split at h
       · unfold chkAtt at h
         split at h
         · cases h
         · omega
       · rename_i t2
         have := hA t2
         omega
end Go.Proofs.Ythonenmafbpbkaa

namespace Go.Proofs.Ythonenmafbpbkaa
open Go Go.Am
def ageGap (a b : Hdr) : Int := IntKind.u64.wrap (IntKind.u64.wrap (if a.Age < b.Age then b.Age else a.Age) - IntKind.u64.wrap (if b.Age < a.Age then b.Age else a.Age))
def cmpH (a b : Hdr) : Int :=
 if orL [cmpI a.Seq b.Seq, cmpI a.Sum b.Sum] ≠ 0 then orL [cmpI a.Seq b.Seq, cmpI a.Sum b.Sum] else
 if a.Age = 3600 ∧ b.Age ≠ 3600 then 1 else if b.Age = 3600 ∧ a.Age ≠ 3600 then -1 else
 if ageGap a b ≤ 900 then 0 else cmpI b.Age a.Age
set_option maxHeartbeats 2000000 in
set_option maxRecDepth 10000 in
theorem c16 (a b : Hdr) : CFun Try.prog 55 [encH a, encH b] [] (.int .i64 (cmpH a b)) [] := by
 refine CFun.intro (tr := []) (fz := []) (n := 64) (rs := [.tmp 4]) Try.func55 rfl (by kernel_rfl) rfl rfl mixed (by kernel_rfl) (by simp) (by simp) ?_
 have h50 := fun H => ((c50 [cmpI a.Seq b.Seq, cmpI a.Sum b.Sum] 2 rfl (by omega)).wk [.sl 1 ([cmpI a.Seq b.Seq, cmpI a.Sum b.Sum].map encI) .full] (by simp) ⟨whole, trivial⟩).up' H rfl rfl
 have h51 : ∀ x y H, CFun Try.prog 90 [.int .i64 x, .int .i64 y] H (.int .i64 (cmpI x y)) H := fun x y H => (c51 x y).up' H rfl rfl
 simp only [List.map_cons, List.map_nil, encI] at h50
 rw [cmpH]
 simp
 refine ⟨_, _, .inl (h51 _ _ _), by simp, ?_⟩
 simp
 refine ⟨_, _, .inl (h51 _ _ _), by simp, ?_⟩
 simp
 refine ⟨_, _, .inl (h50 _), by simp, ?_⟩
 generalize orL [cmpI a.Seq b.Seq, cmpI a.Sum b.Sum] = c
 by_cases e0 : c = 0
 · subst e0
   by_cases e1 : a.Age = 3600
   · by_cases e2 : b.Age = 3600
     · simp [e1, e2, ageGap, show IntKind.u64.wrap 0 = 0 from rfl]
     · simp [e1, e2]
   · by_cases e2 : b.Age = 3600
     · simp [e1, e2]
     · have e1' : (a.Age == 3600) = false := by simpa using e1
       have e2' : (b.Age == 3600) = false := by simpa using e2
       by_cases e3 : ageGap a b ≤ 900
       · simp only [ageGap] at e3
         simp [e1', e2', e1, e2, e3, ageGap]
       · simp only [ageGap] at e3
         simp [e1', e2', e3, -Int.not_le]
         refine ⟨_, _, .inl (h51 _ _ _), by simp, ?_⟩
         simp [e1, e2, e3, ageGap]
 · simp [e0]
def sealA (l : Lsa) : Lsa := { l with H := { l.H with Sum := sumA l } }
def sealL (l : Lsa) : Lsa × Int := if chkA l ≠ 0 then (⟨⟨0, 0, 0, 0, 0, 0, 0⟩, false, false, [], [], 0, false, 0, 0⟩, chkA l) else (sealA l, 0)
def encL (l : Lsa) : List Int × Int := if chkA l ≠ 0 then ([], chkA l) else if l.H.Sum ≠ sumA l then ([], 13) else (bytesA l, 0)
end Go.Proofs.Ythonenmafbpbkaa

namespace Go.Proofs.Ythonenmafbpbkaa
open Go Go.Am
def smp : Lsa := ⟨⟨3, 167772160, 8, 1, 4, 0, 0⟩, false, false, [], [], 7, false, 0, 0⟩
def smpS : Lsa := ⟨⟨3, 167772160, 8, 1, 4, 0, sumA smp⟩, false, false, [], [], 7, false, 0, 0⟩
def h1 : Hdr := ⟨1, 1, 0, 1, 4, 100, 0⟩
def h2 : Hdr := ⟨1, 1, 0, 1, 3, 100, 0⟩
def h3 : Hdr := ⟨1, 1, 0, 1, 4, 1100, 0⟩
def h4 : Hdr := ⟨1, 1, 0, 1, 4, 1000, 0⟩
theorem v1 : sealL smp = (smpS, 0) := by decide +kernel
theorem v2 : (encL smpS).2 = 0 ∧ (encL smpS).1.length = 24 := by decide +kernel
theorem v3 : cmpH h1 h2 = 1 ∧ cmpH h1 h3 = 1 ∧ cmpH h1 h4 = 0 := by decide +kernel
end Go.Proofs.Ythonenmafbpbkaa

namespace Go.Proofs.Ythonenmafbpbkaa
open Go Go.Am
theorem cmpI_zero (a b : Int) : cmpI a b = 0 ↔ a = b := by
 unfold cmpI; split
 · omega
 · split <;> omega
theorem cmpI_neg (a b : Int) : cmpI b a = - cmpI a b := by
 unfold cmpI
 split <;> split <;> omega
theorem c52 (a b : Int) : CFun Try.prog 91 [.int .i64 a, .int .i64 b] [] (.int .i64 (cmpI a b)) [] := by
 refine CFun.intro (tr := []) (fz := []) (n := 11) (rs := [.tmp 4]) Try.func91 rfl (by kernel_rfl) rfl rfl mixed (by kernel_rfl) (by simp) (by simp) ?_
 by_cases h : a < b
 · simp [h, cmpI]
 · by_cases h2 : b < a <;> simp [h, h2, cmpI]
def inI (x : Int) : Prop := -9223372036854775808 ≤ x ∧ x ≤ 9223372036854775807
set_option maxHeartbeats 1000000 in
set_option maxRecDepth 10000 in
theorem c53 (a b : Int) (ha : inI a) (hb : inI b) (hab : a < b) : CFun Try.prog 92 [.int .i64 a, .int .i64 b] [] (.bool (decide (900 < b - a))) [] := by
 obtain ⟨a1, a2⟩ := ha
 obtain ⟨b1, b2⟩ := hb
 refine CFun.intro (tr := []) (fz := []) (n := 15) (rs := [.tmp 4]) Try.func92 rfl (by kernel_rfl) rfl rfl mixed (by kernel_rfl) (by simp) (by simp) ?_
 simp
 refine LoopK.intro (tr := []) mixed (by kernel_rfl) (fun k : Nat => [(0, .int .i64 (a + k)), (1, .int .i64 b), (5, .int .i64 k)]) (fun _ => []) (fun k => k ≤ 901 ∧ a + k ≤ b) (fun k => 901 - k) 0 ?_ ?_ ?_
 · exact ⟨by omega, by omega⟩
 · simp
 · rintro k ⟨k1, k2⟩
   by_cases hk : k ≤ 900
   · have hk' : (k : Int) ≤ 900 := by omega
     by_cases e : a + k = b
     · have : ¬ (900 < b - a) := by omega
       simp [hk', e, this]
     · have w1 : IntKind.i64.wrap ((k : Int) + 1) = k + 1 := wrap_in (by omega)
       have w2 : IntKind.i64.wrap (a + k + 1) = a + k + 1 := wrap_in (by omega)
       simp [hk', e, w1, w2]
       exact ⟨k + 1, ⟨by omega, by omega⟩, by omega, by omega, by simp⟩
   · have hk' : ¬ ((k : Int) ≤ 900) := by omega
     have : 900 < b - a := by omega
     simp [hk', this]
theorem wrap_u64 (x : Int) : IntKind.u64.wrap x = x % 18446744073709551616 := rfl
theorem ageGap_abs (a b : Hdr) (ha : inI a.Age) (hb : inI b.Age) : ageGap a b = if a.Age < b.Age then b.Age - a.Age else a.Age - b.Age := by
 obtain ⟨a1, a2⟩ := ha
 obtain ⟨b1, b2⟩ := hb
 unfold ageGap
 simp only [wrap_u64]
 split <;> split <;> omega
theorem orL_two (x y : Int) : orL [x, y] = if x = 0 then y else x := by
 simp only [orL]
 split
 · split
   · rename_i h; exact h.symm
   · rfl
 · rfl
set_option maxHeartbeats 4000000 in
set_option maxRecDepth 10000 in
theorem c17 (a b : Hdr) (ha : inI a.Age) (hb : inI b.Age) : CFun Try.prog 57 [encH a, encH b] [] (.int .i64 (cmpH a b)) [] := by
 refine CFun.intro (tr := []) (fz := []) (n := 59) (rs := [.tmp 4]) Try.func57 rfl (by kernel_rfl) rfl rfl mixed (by kernel_rfl) (by simp) (by simp) ?_
 have h52 : ∀ x y H, CFun Try.prog 91 [.int .i64 x, .int .i64 y] H (.int .i64 (cmpI x y)) H := fun x y H => (c52 x y).up' H rfl rfl
 by_cases e1 : a.Seq = b.Seq
 case neg =>
   have hr : cmpH a b = cmpI a.Seq b.Seq := by
     have : cmpI a.Seq b.Seq ≠ 0 := fun h => e1 ((cmpI_zero _ _).1 h)
     simp [cmpH, orL_two, this]
   rw [hr]
   have b1 : (a.Seq != b.Seq) = true := by simpa using e1
   simp [b1]
   refine ⟨_, _, .inl (h52 _ _ _), by simp, ?_⟩
   simp
 have b1 : (a.Seq != b.Seq) = false := by simpa using e1
 by_cases e2 : a.Sum = b.Sum
 case neg =>
   have hr : cmpH a b = cmpI a.Sum b.Sum := by
     have h0 : cmpI a.Seq b.Seq = 0 := (cmpI_zero _ _).2 e1
     have : cmpI a.Sum b.Sum ≠ 0 := fun h => e2 ((cmpI_zero _ _).1 h)
     simp [cmpH, orL_two, h0, this]
   rw [hr]
   have b2 : (a.Sum != b.Sum) = true := by simpa using e2
   simp [b1, b2]
   refine ⟨_, _, .inl (h52 _ _ _), by simp, ?_⟩
   simp
 have b2 : (a.Sum != b.Sum) = false := by simpa using e2
 have hr : cmpH a b = if a.Age = 3600 ∧ b.Age ≠ 3600 then 1 else if b.Age = 3600 ∧ a.Age ≠ 3600 then -1 else if (if a.Age < b.Age then b.Age - a.Age else a.Age - b.Age) ≤ 900 then 0 else cmpI b.Age a.Age := by
   have h0 : cmpI a.Seq b.Seq = 0 := (cmpI_zero _ _).2 e1
   have h1 : cmpI a.Sum b.Sum = 0 := (cmpI_zero _ _).2 e2
   rw [cmpH, orL_two, h0, h1, ageGap_abs a b ha hb]
   simp
 rw [hr]
 by_cases e3 : a.Age = 3600
 · by_cases e4 : b.Age = 3600
   · simp [b1, b2, e3, e4]
   · have b4 : (b.Age == 3600) = false := by simpa using e4
     have b3 : (a.Age == 3600) = true := by simpa using e3
     simp [b1, b2, b3, b4, e3, e4]
 · have b3 : (a.Age == 3600) = false := by simpa using e3
   by_cases e4 : b.Age = 3600
   · have b4 : (b.Age == 3600) = true := by simpa using e4
     simp [b1, b2, b3, b4, e3, e4]
   · have b4 : (b.Age == 3600) = false := by simpa using e4
     by_cases e5 : a.Age < b.Age
     · have h53 := fun H => (c53 a.Age b.Age ha hb e5).up' H rfl rfl
       have e6 : ¬ b.Age < a.Age := by omega
       simp [b1, b2, b3, b4, e5]
       refine ⟨_, _, .inl (h53 _), by simp, ?_⟩
       by_cases e7 : 900 < b.Age - a.Age
       · have : ¬ (b.Age - a.Age ≤ 900) := by omega
         simp [e7, e3, e4, this, cmpI, e5, e6]
       · have : b.Age - a.Age ≤ 900 := by omega
         simp [e7, e3, e4, this, e6]
     · by_cases e6 : b.Age < a.Age
       · have h53 := fun H => (c53 b.Age a.Age hb ha e6).up' H rfl rfl
         simp [b1, b2, b3, b4, e5, e6]
         refine ⟨_, _, .inl (h53 _), by simp, ?_⟩
         by_cases e7 : 900 < a.Age - b.Age
         · have : ¬ (a.Age - b.Age ≤ 900) := by omega
           simp [e7, e3, e4, this, cmpI, e5, e6]
         · have : a.Age - b.Age ≤ 900 := by omega
           simp [e7, e3, e4, this, e5]
       · have : a.Age - b.Age ≤ 900 := by omega
         simp [b1, b2, b3, b4, e5, e6, e3, e4, this]
theorem cmpH_seq (a b : Hdr) (h : b.Seq < a.Seq) : cmpH a b = 1 := by
 have : cmpI a.Seq b.Seq = 1 := by unfold cmpI; rw [if_neg (by omega), if_pos h]
 simp [cmpH, orL_two, this]
end Go.Proofs.Ythonenmafbpbkaa

namespace Go.Proofs.Ythonenmafbpbkaa
open Go Go.Am
theorem Rds_int {k : IntKind} {ts : List CTy} {cs : List AVal} (h : Rds (.int k :: ts) cs) : ∃ n r, cs = .int k n :: r ∧ Rds ts r ∧ (Lit.int k n).wf = true := by
 simp only [Rds, Rd] at h
 obtain ⟨x, r, rfl, ⟨n, rfl, hn⟩, h2⟩ := h
 exact ⟨n, r, rfl, h2, hn⟩
theorem Rds_bool {ts : List CTy} {cs : List AVal} (h : Rds (.bool :: ts) cs) : ∃ b r, cs = .bool b :: r ∧ Rds ts r := by
 simp only [Rds, Rd] at h
 obtain ⟨x, r, rfl, ⟨n, rfl⟩, h2⟩ := h
 exact ⟨n, r, rfl, h2⟩
theorem Rds_nil {cs : List AVal} (h : Rds [] cs) : cs = [] := h
theorem decAll {α : Type} {enc : α → AVal} : ∀ (xs : List AVal), (∀ y ∈ xs, ∃ a, y = enc a) → ∃ l : List α, xs = l.map enc := by
 intro xs
 induction xs with
 | nil => intro _; exact ⟨[], rfl⟩
 | cons x xs ih =>
   intro h
   obtain ⟨a, rfl⟩ := h x (by simp)
   obtain ⟨l, rfl⟩ := ih fun y hy => h y (by simp [hy])
   exact ⟨a :: l, rfl⟩
theorem Rds_sl {α : Type} {enc : α → AVal} {ag : Bool} {by_ : Nat} {e ts : List CTy} {cs : List AVal} (h : Rds (.sl ag by_ e :: ts) cs) (hd : ∀ y cs, (if ag = true then y = .agg cs else cs = [y]) → Rds e cs → ∃ a, y = enc a) :
   ∃ (l : List α) (r : List AVal), cs = .sl e.length (l.map enc) .sh :: r ∧ Rds ts r ∧ l.length * by_ ≤ reachBytes := by
 simp only [Rds, Rd] at h
 obtain ⟨x, r, rfl, ⟨xs, rfl, hl, hx⟩, h2⟩ := h
 obtain ⟨l, rfl⟩ := decAll (enc := enc) xs fun y hy => by
   obtain ⟨cs, h1, h2⟩ := hx y hy
   exact hd y cs h1 h2
 exact ⟨l, r, rfl, h2, by simpa using hl⟩
def inW (x : Int) : Prop := 0 ≤ x ∧ x ≤ 4294967295
theorem wf_i64 {n : Int} (h : (Lit.int .i64 n).wf = true) : inI n := by
 simpa [Lit.wf, IntKind.min, IntKind.max, IntKind.signed, IntKind.bits, inI] using h
theorem wf_u32 {n : Int} (h : (Lit.int .u32 n).wf = true) : inW n := by
 simpa [Lit.wf, IntKind.min, IntKind.max, IntKind.signed, IntKind.bits, inW] using h
def okH (h : Hdr) : Prop := inI h.Ty ∧ inW h.ID ∧ inI h.Len ∧ inW h.Router ∧ inI h.Seq ∧ inI h.Age ∧ inI h.Sum
def csH : List CTy := [.int .i64, .int .u32, .int .i64, .int .u32, .int .i64, .int .i64, .int .i64]
theorem dec_H {ts : List CTy} {cs : List AVal} (h : Rds (csH ++ ts) cs) : ∃ (x : Hdr) (r : List AVal), cs = cellsH x ++ r ∧ okH x ∧ Rds ts r := by
 obtain ⟨a1, r, rfl, h, w1⟩ := Rds_int h
 obtain ⟨a2, r, rfl, h, w2⟩ := Rds_int h
 obtain ⟨a3, r, rfl, h, w3⟩ := Rds_int h
 obtain ⟨a4, r, rfl, h, w4⟩ := Rds_int h
 obtain ⟨a5, r, rfl, h, w5⟩ := Rds_int h
 obtain ⟨a6, r, rfl, h, w6⟩ := Rds_int h
 obtain ⟨a7, r, rfl, h, w7⟩ := Rds_int h
 exact ⟨⟨a1, a2, a3, a4, a5, a6, a7⟩, r, rfl, ⟨wf_i64 w1, wf_u32 w2, wf_i64 w3, wf_u32 w4, wf_i64 w5, wf_i64 w6, wf_i64 w7⟩, h⟩
theorem own : ownKnob Try.prog.godebug = none := by kernel_rfl
end Go.Proofs.Ythonenmafbpbkaa

namespace Go.Proofs.Ythonenmafbpbkaa
open Go Go.Am
structure LKey where
  Ty : Int
  ID : Int
  Len : Int
  Router : Int
  deriving DecidableEq
@[simp] def cellsY (k : LKey) : List AVal := [.int .i64 k.Ty, .int .u32 k.ID, .int .i64 k.Len, .int .u32 k.Router]
@[simp] def encY (k : LKey) : AVal := .agg (cellsY k)
def keyH (h : Hdr) : LKey := ⟨h.Ty, h.ID, h.Len, h.Router⟩
set_option maxRecDepth 10000 in
theorem c25 (h : Hdr) : CFun Try.prog 61 [encH h] [] (encY (keyH h)) [] := by
 refine CFun.intro (tr := []) (fz := []) (n := 12) (rs := [.cell 2 43]) Try.func61 rfl (by kernel_rfl) rfl rfl mixed (by kernel_rfl) (by simp) (by simp) ?_
 simp [keyH]
set_option maxRecDepth 10000 in
theorem c26 (h : Hdr) : CFun Try.prog 23 [encH h] [] (encY (keyH h)) [] := by
 refine CFun.intro (tr := []) (fz := []) (n := 12) (rs := [.cell 2 43]) Try.func23 rfl (by kernel_rfl) rfl rfl mixed (by kernel_rfl) (by simp) (by simp) ?_
 simp [keyH]
theorem c63 (a b : Int) : CFun Try.prog 105 [.int .u32 a, .int .u32 b] [] (.int .i64 (cmpI a b)) [] := by
 refine CFun.intro (tr := []) (fz := []) (n := 11) (rs := [.tmp 4]) Try.func105 rfl (by kernel_rfl) rfl rfl mixed (by kernel_rfl) (by simp) (by simp) ?_
 by_cases h : a < b
 · simp [h, cmpI]
 · by_cases h2 : b < a <;> simp [h, h2, cmpI]
def cmpY (a b : LKey) : Int := orL [cmpI a.Ty b.Ty, cmpI a.ID b.ID, cmpI a.Len b.Len, cmpI a.Router b.Router]
set_option maxHeartbeats 2000000 in
set_option maxRecDepth 10000 in
theorem c27 (a b : LKey) : CFun Try.prog 83 [encY a, encY b] [] (.int .i64 (cmpY a b)) [] := by
 refine CFun.intro (tr := []) (fz := []) (n := 27) (rs := [.tmp 4]) Try.func83 rfl (by kernel_rfl) rfl rfl mixed (by kernel_rfl) (by simp) (by simp) ?_
 have h50 := fun H => ((c50 [cmpI a.Ty b.Ty, cmpI a.ID b.ID, cmpI a.Len b.Len, cmpI a.Router b.Router] 4 rfl (by omega)).wk [.sl 1 ([cmpI a.Ty b.Ty, cmpI a.ID b.ID, cmpI a.Len b.Len, cmpI a.Router b.Router].map encI) .full] (by simp) ⟨whole, trivial⟩).up' H rfl rfl
 have h51 : ∀ x y H, CFun Try.prog 90 [.int .i64 x, .int .i64 y] H (.int .i64 (cmpI x y)) H := fun x y H => (c51 x y).up' H rfl rfl
 have h62 : ∀ x y H, CFun Try.prog 106 [.int .u32 x, .int .u32 y] H (.int .i64 (cmpI x y)) H := fun x y H => (c62 x y).up' H rfl rfl
 simp only [List.map_cons, List.map_nil, encI] at h50
 simp
 refine ⟨_, _, .inl (h51 _ _ _), by simp, ?_⟩
 simp
 refine ⟨_, _, .inl (h62 _ _ _), by simp, ?_⟩
 simp
 refine ⟨_, _, .inl (h51 _ _ _), by simp, ?_⟩
 simp
 refine ⟨_, _, .inl (h62 _ _ _), by simp, ?_⟩
 simp
 refine ⟨_, _, .inl (h50 _), by simp, ?_⟩
 simp [cmpY]
set_option maxHeartbeats 2000000 in
set_option maxRecDepth 10000 in
theorem c28 (a b : LKey) : CFun Try.prog 75 [encY a, encY b] [] (.int .i64 (cmpY a b)) [] := by
 refine CFun.intro (tr := []) (fz := []) (n := 40) (rs := [.tmp 4]) Try.func75 rfl (by kernel_rfl) rfl rfl mixed (by kernel_rfl) (by simp) (by simp) ?_
 have h52 : ∀ x y H, CFun Try.prog 91 [.int .i64 x, .int .i64 y] H (.int .i64 (cmpI x y)) H := fun x y H => (c52 x y).up' H rfl rfl
 have h63 : ∀ x y H, CFun Try.prog 105 [.int .u32 x, .int .u32 y] H (.int .i64 (cmpI x y)) H := fun x y H => (c63 x y).up' H rfl rfl
 have nz : ∀ {x y : Int}, x ≠ y → cmpI x y ≠ 0 := fun h h' => h ((cmpI_zero _ _).1 h')
 have zz : ∀ {x y : Int}, x = y → cmpI x y = 0 := fun h => (cmpI_zero _ _).2 h
 by_cases e1 : a.Ty = b.Ty
 case neg =>
   have b1 : (a.Ty != b.Ty) = true := by simpa using e1
   simp [b1]
   refine ⟨_, _, .inl (h52 _ _ _), by simp, ?_⟩
   simp [cmpY, orL, nz e1]
 have b1 : (a.Ty != b.Ty) = false := by simpa using e1
 by_cases e2 : a.ID = b.ID
 case neg =>
   have b2 : (a.ID != b.ID) = true := by simpa using e2
   simp [b1, b2]
   refine ⟨_, _, .inl (h63 _ _ _), by simp, ?_⟩
   simp [cmpY, orL, zz e1, nz e2]
 have b2 : (a.ID != b.ID) = false := by simpa using e2
 by_cases e3 : a.Len = b.Len
 case neg =>
   have b3 : (a.Len != b.Len) = true := by simpa using e3
   simp [b1, b2, b3]
   refine ⟨_, _, .inl (h52 _ _ _), by simp, ?_⟩
   simp [cmpY, orL, zz e1, zz e2, nz e3]
 have b3 : (a.Len != b.Len) = false := by simpa using e3
 simp [b1, b2, b3]
 refine ⟨_, _, .inl (h63 _ _ _), by simp, ?_⟩
 simp [cmpY, orL, zz e1, zz e2, zz e3]
end Go.Proofs.Ythonenmafbpbkaa

namespace Go.Proofs.Ythonenmafbpbkaa
open Go Go.Am
theorem mask_bits (k i : Nat) (hk : k ≤ 32) : ((4294967295 * 2 ^ k) % 2 ^ 32).testBit i = (decide (i < 32) && decide (k ≤ i)) := by
 rw [Nat.testBit_mod_two_pow, Nat.testBit_mul_two_pow]
 have e : (4294967295 : Nat) = 2 ^ 32 - 1 := by decide
 rw [e, Nat.testBit_two_pow_sub_one]
 by_cases h1 : i < 32
 · by_cases h2 : k ≤ i
   · have : i - k < 32 := by omega
     simp [h1, h2, this]
   · simp [h2]
 · simp [h1]
theorem and_mask (A k : Nat) (hA : A < 2 ^ 32) (hk : k ≤ 32) : A &&& ((4294967295 * 2 ^ k) % 2 ^ 32) = A ↔ ∀ s, s < k → A.testBit s = false := by
 constructor
 · intro h s hs
   have := congrArg (fun x => x.testBit s) h
   simp only [Nat.testBit_and, mask_bits k s hk] at this
   have h2 : ¬ (k ≤ s) := by omega
   simpa [h2] using this.symm
 · intro h
   apply Nat.eq_of_testBit_eq
   intro i
   rw [Nat.testBit_and, mask_bits k i hk]
   by_cases h2 : k ≤ i
   · by_cases h1 : i < 32
     · simp [h1, h2]
     · have : A.testBit i = false := Nat.testBit_lt_two_pow (Nat.lt_of_lt_of_le hA (Nat.pow_le_pow_right (by omega) (by omega)))
       simp [this]
   · simp [h2, h i (by omega)]
theorem wrap_u32 (x : Int) : IntKind.u32.wrap x = x % 4294967296 := rfl
theorem mask_nat (m : Nat) (hm : m ≤ 32) : maskI m = ((4294967295 * 2 ^ (32 - m) % 2 ^ 32 : Nat) : Int) := by
 unfold maskI
 have hc : clampI m 32 = m := by
   unfold clampI
   rw [if_neg (by omega), if_neg (by omega)]
 have e : min (32 - (m : Int)).toNat 32 = 32 - m := by omega
 rw [hc, e, wrap_u32]
 simp
theorem keep_nat (A m : Nat) (hA : A < 2 ^ 32) (hm : m ≤ 32) : keepI A m = ((A &&& (4294967295 * 2 ^ (32 - m) % 2 ^ 32) : Nat) : Int) := by
 unfold keepI
 rw [mask_nat m hm]
 have h1 : ((A : Int) % 4294967296).toNat = A := by omega
 have hM : 4294967295 * 2 ^ (32 - m) % 2 ^ 32 < 2 ^ 32 := Nat.mod_lt _ (by omega)
 generalize 4294967295 * 2 ^ (32 - m) % 2 ^ 32 = M at hM ⊢
 have h2 : ((M : Int) % 4294967296).toNat = M := by omega
 simp only [BitVec.toNat_and, BitVec.toNat_ofInt]
 have hp : ((2 ^ 32 : Nat) : Int) = 4294967296 := by decide
 rw [hp, h1, h2, wrap_u32]
 have : A &&& M < 2 ^ 32 := Nat.lt_of_le_of_lt Nat.and_le_left hA
 omega
theorem valid_bits (A m : Nat) (hA : A < 2 ^ 32) (hm : m ≤ 32) : validP A m = true ↔ ∀ s, s < 32 - m → A.testBit s = false := by
 have h0 : (0 : Int) ≤ m := by omega
 have h1 : (m : Int) ≤ 32 := by omega
 simp only [validP, h0, h1, decide_true, Bool.true_and, decide_eq_true_eq]
 rw [keep_nat A m hA hm, ← and_mask A (32 - m) hA (by omega)]
 omega
theorem bit_here (A : Nat) (hA : A < 2 ^ 32) (s : Nat) (hs : s ≤ 31) : IntKind.u32.wrap (((((A : Int).fdiv (2 ^ min s IntKind.u32.bits)) % 2 ^ IntKind.u32.bits).toNat &&& 1 % 2 ^ IntKind.u32.bits : Nat) : Int) = 1 ↔ A.testBit s = true := by
 have hbits : IntKind.u32.bits = 32 := rfl
 have hmin : min s 32 = s := by omega
 have hp : (2 : Int) ^ s = ((2 ^ s : Nat) : Int) := by simp
 have hd : (A : Int).fdiv (2 ^ s) = ((A / 2 ^ s : Nat) : Int) := by
   rw [hp, Int.fdiv_eq_ediv_of_nonneg _ (Int.natCast_nonneg _)]
   exact (Int.natCast_ediv _ _).symm
 have hq : A / 2 ^ s < 2 ^ 32 := Nat.lt_of_le_of_lt (Nat.div_le_self _ _) hA
 rw [hbits, hmin, hd]
 have h32 : ((2 : Int) ^ 32) = 4294967296 := by decide
 have h1 : 1 % 2 ^ 32 = 1 := by decide
 rw [h32, h1]
 rw [Nat.testBit_eq_decide_div_mod_eq]
 generalize A / 2 ^ s = q at hq ⊢
 have h2 : ((q : Int) % 4294967296).toNat = q := by omega
 rw [h2, Nat.and_one_is_mod, wrap_u32, decide_eq_true_eq]
 omega
set_option maxHeartbeats 1000000 in
set_option maxRecDepth 10000 in
theorem c70 (A : Nat) (hA : A < 2 ^ 32) (n : Int) : CFun Try.prog 112 [.int .u32 A, .int .i64 n] [] (.bool (validP A n)) [] := by
 refine CFun.intro (tr := []) (fz := []) (n := 24) (rs := [.tmp 4]) Try.func112 rfl (by kernel_rfl) rfl rfl mixed (by kernel_rfl) (by simp) (by simp) ?_
 by_cases h0 : n < 0
 · have : ¬ (0 ≤ n) := by omega
   simp [h0, validP, this]
 by_cases h1 : 32 < n
 · have : ¬ (n ≤ 32) := by omega
   simp [h0, h1, validP, this]
 obtain ⟨m, rfl⟩ : ∃ m : Nat, n = m := ⟨n.toNat, by omega⟩
 have hm : m ≤ 32 := by omega
 simp [h0, h1]
 refine LoopK.intro (tr := []) mixed (by kernel_rfl) (fun i : Nat => [(0, .int .u32 A), (5, .int .i64 i)]) (fun _ => []) (fun i => m ≤ i ∧ i ≤ 32 ∧ ∀ j, m ≤ j → j < i → A.testBit (31 - j) = false) (fun i => 32 - i) m ?_ ?_ ?_
 · exact ⟨by omega, hm, by omega⟩
 · simp
 · rintro i ⟨i1, i2, i3⟩
   by_cases hi : i < 32
   · have hi' : (i : Int) < 32 := by omega
     have w1 : IntKind.i64.wrap ((i : Int) + 1) = i + 1 := wrap_in (by omega)
     have w2 : IntKind.i64.wrap (31 - (i : Int)) = 31 - i := wrap_in (by omega)
     have w3 : IntKind.u64.wrap (31 - (i : Int)) = 31 - i := by rw [wrap_u64]; omega
     have w4 : ¬ (31 - (i : Int) < 0) := by omega
     simp [hi', w1, w2, w3, w4]
     have hb := bit_here A hA (31 - i)
     by_cases hbit : A.testBit (31 - i) = true
     · have hv : validP A m = false := by
         cases hv : validP A m
         · rfl
         · have := (valid_bits A m hA hm).1 hv (31 - i) (by omega)
           rw [this] at hbit; cases hbit
       rw [if_pos ((hb (by omega)).2 hbit)]
       exact hv
     · rw [if_neg (fun h => hbit ((hb (by omega)).1 h))]
       refine ⟨i + 1, ⟨by omega, by omega, fun j j1 j2 => ?_⟩, by omega, by omega⟩
       by_cases hji : j = i
       · subst hji; simpa using hbit
       · exact i3 j j1 (by omega)
   · have hi' : ¬ ((i : Int) < 32) := by omega
     have hv : validP A m = true := (valid_bits A m hA hm).2 fun s hs => by
       have := i3 (31 - s) (by omega) (by omega)
       rwa [show 31 - (31 - s) = s by omega] at this
     simp [hi', hv]
end Go.Proofs.Ythonenmafbpbkaa
