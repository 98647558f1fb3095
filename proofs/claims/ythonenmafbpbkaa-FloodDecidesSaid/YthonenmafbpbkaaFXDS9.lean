import Derived.Test.YthonenmafbpbkaaFXDS6
set_option linter.unusedSimpArgs false
set_option linter.unusedVariables false
namespace Go.Proofs.Ythonenmafbpbkaa
open Go Go.Am
theorem bodyB_len (l : Lsa) (hl : l.Links.length ≤ 64) (ha : l.Att.length ≤ 64) : (bodyB l).length ≤ 706 := by
 have h1 : ((l.Links.map linkB).flatten).length = l.Links.length * 11 := by
   induction l.Links with
   | nil => rfl
   | cons x xs ih => simp only [List.map_cons, List.flatten_cons, List.length_append, linkB_len, List.length_cons, ih]; omega
 have h2 : ((l.Att.map attB).flatten).length = l.Att.length * 4 := by
   induction l.Att with
   | nil => rfl
   | cons x xs ih => simp only [List.map_cons, List.flatten_cons, List.length_append, attB_len, List.length_cons, ih]; omega
 unfold bodyB
 split
 · simp only [List.length_append, numB_len, h1]; omega
 · split
   · simp only [List.length_append, numB_len, h2]; omega
   · split
     · simp [numB_len]
     · split <;> simp [numB_len]
def bytesA (l : Lsa) : List Int := hdrB l.H ++ numB 2 (U (bodyB l).length) ++ bodyB l
theorem bytesA_len (l : Lsa) (hl : l.Links.length ≤ 64) (ha : l.Att.length ≤ 64) : (bytesA l).length ≤ 726 := by
 have := bodyB_len l hl ha
 simp only [bytesA, List.length_append, hdrB_len, numB_len]; omega
def resI (n : Int) : Int := IntKind.i64.wrap ((IntKind.i64.wrap ((IntKind.i64.wrap (n - 1)).tmod 255 + 255)).tmod 255 + 1)
def sumStep (n : Int) (skip : Int) (i : Nat) (s : Int × Int) (b : Int) : Int × Int :=
 if 0 ≤ skip ∧ ((i : Int) = skip ∨ (i : Int) = IntKind.i64.wrap (skip + 1)) then s else
 ((IntKind.i64.wrap (s.1 + IntKind.i64.wrap b)).tmod 255, (IntKind.i64.wrap (s.2 + IntKind.i64.wrap ((IntKind.i64.wrap (n - i)).tmod 255 * IntKind.i64.wrap b))).tmod 255)
def sumsL (n : Int) (skip : Int) : List Int → Nat → Int × Int → Int × Int
 | [], _, s => s
 | b :: bs, i, s => sumsL n skip bs (i + 1) (sumStep n skip i s b)
def fletch (b : List Int) (at_ : Int) : Int × Bool :=
 if at_ < 0 ∨ IntKind.i64.wrap ((b.length : Int) - 1) ≤ at_ then (0, false) else
 let s := sumsL b.length at_ b 0 (0, 0)
 let x := resI (IntKind.i64.wrap (IntKind.i64.wrap ((IntKind.i64.wrap (IntKind.i64.wrap ((b.length : Int) - at_) - 1)).tmod 255 * s.1) - s.2))
 let y := resI (IntKind.i64.wrap (IntKind.i64.wrap (0 - s.1) - x))
 (IntKind.i64.wrap (IntKind.i64.wrap (256 * x) + y), true)
def sumA (l : Lsa) : Int := (fletch ((bytesA l).drop 2) 14).1
end Go.Proofs.Ythonenmafbpbkaa

namespace Go.Proofs.Ythonenmafbpbkaa
open Go Go.Am
def forB (l : Lsa) : Bool :=
 if memL [1] l.H.Ty = false ∧ (l.Border = true ∨ l.Boundary = true ∨ 0 < l.Links.length) then true else
 if memL [2] l.H.Ty = false ∧ 0 < l.Att.length then true else
 if memL [3, 4, 5] l.H.Ty = false ∧ l.Cost ≠ 0 then true else
 !memL [5] l.H.Ty && (l.Second || decide (l.Fwd ≠ 0) || decide (l.Tag ≠ 0))
theorem memL1 (a x : Int) : memL [a] x = decide (x = a) := by simp [memL]
def chkA (l : Lsa) : Int :=
 if chkH l.H ≠ 0 then chkH l.H else if forB l = true then 1 else
 if l.H.Ty = 1 then chkLinks l.Links l.H.Router else if l.H.Ty = 2 then chkAtt l.Att l.H.Router else
 if inR l.Cost 0 16777216 = false ∨ inR l.Tag 0 4294967295 = false then 5 else 0
theorem chkA_len {l : Lsa} (h : chkA l = 0) : l.Links.length ≤ 64 ∧ l.Att.length ≤ 64 := by
 unfold chkA at h
 split at h
 · contradiction
 · split at h
   · cases h
   · rename_i h2
     have hL : l.H.Ty ≠ 1 → l.Links.length = 0 := by
       intro hne
       by_cases e : 0 < l.Links.length
       · exact (h2 (by simp [forB, memL1, hne, e])).elim
       · omega
     have hA : l.H.Ty ≠ 2 → l.Att.length = 0 := by
       intro hne
       by_cases e : 0 < l.Att.length
       · refine (h2 ?_).elim
         unfold forB
         split
         · rfl
         · rw [if_pos ⟨by simp [memL1, hne], e⟩]
       · omega
     split at h
     · rename_i t1
       have := hA (by omega)
       unfold chkLinks at h
       split at h
       · cases h
       · omega
     · rename_i t1
       have := hL t1
       split at h
       · unfold chkAtt at h
         split at h
         · cases h
         · omega
       · rename_i t2
         have := hA t2
         omega
end Go.Proofs.Ythonenmafbpbkaa

namespace Go.Proofs.Ythonenmafbpbkaa
open Go Go.Am
def ageGap (a b : Hdr) : Int := IntKind.u64.wrap (IntKind.u64.wrap (if a.Age < b.Age then b.Age else a.Age) - IntKind.u64.wrap (if b.Age < a.Age then b.Age else a.Age))
def cmpH (a b : Hdr) : Int :=
 if orL [cmpI a.Seq b.Seq, cmpI a.Sum b.Sum] ≠ 0 then orL [cmpI a.Seq b.Seq, cmpI a.Sum b.Sum] else
 if a.Age = 3600 ∧ b.Age ≠ 3600 then 1 else if b.Age = 3600 ∧ a.Age ≠ 3600 then -1 else
 if ageGap a b ≤ 900 then 0 else cmpI b.Age a.Age
set_option maxHeartbeats 2000000 in
set_option maxRecDepth 10000 in
theorem c16 (a b : Hdr) : CFun Try.prog 55 [encH a, encH b] [] (.int .i64 (cmpH a b)) [] := by
 refine CFun.intro (tr := []) (fz := []) (n := 64) (rs := [.tmp 4]) Try.func55 rfl (by kernel_rfl) rfl rfl mixed (by kernel_rfl) (by simp) (by simp) ?_
 have h50 := fun H => ((c50 [cmpI a.Seq b.Seq, cmpI a.Sum b.Sum] 2 rfl (by omega)).wk [.sl 1 ([cmpI a.Seq b.Seq, cmpI a.Sum b.Sum].map encI) .full] (by simp) ⟨whole, trivial⟩).up' H rfl rfl
 have h51 : ∀ x y H, CFun Try.prog 90 [.int .i64 x, .int .i64 y] H (.int .i64 (cmpI x y)) H := fun x y H => (c51 x y).up' H rfl rfl
 simp only [List.map_cons, List.map_nil, encI] at h50
 rw [cmpH]
 simp
 refine ⟨_, _, .inl (h51 _ _ _), by simp, ?_⟩
 simp
 refine ⟨_, _, .inl (h51 _ _ _), by simp, ?_⟩
 simp
 refine ⟨_, _, .inl (h50 _), by simp, ?_⟩
 generalize orL [cmpI a.Seq b.Seq, cmpI a.Sum b.Sum] = c
 by_cases e0 : c = 0
 · subst e0
   by_cases e1 : a.Age = 3600
   · by_cases e2 : b.Age = 3600
     · simp [e1, e2, ageGap, show IntKind.u64.wrap 0 = 0 from rfl]
     · simp [e1, e2]
   · by_cases e2 : b.Age = 3600
     · simp [e1, e2]
     · have e1' : (a.Age == 3600) = false := by simpa using e1
       have e2' : (b.Age == 3600) = false := by simpa using e2
       by_cases e3 : ageGap a b ≤ 900
       · simp only [ageGap] at e3
         simp [e1', e2', e1, e2, e3, ageGap]
       · simp only [ageGap] at e3
         simp [e1', e2', e3, -Int.not_le]
         refine ⟨_, _, .inl (h51 _ _ _), by simp, ?_⟩
         simp [e1, e2, e3, ageGap]
 · simp [e0]
def sealA (l : Lsa) : Lsa := { l with H := { l.H with Sum := sumA l } }
def sealL (l : Lsa) : Lsa × Int := if chkA l ≠ 0 then (⟨⟨0, 0, 0, 0, 0, 0, 0⟩, false, false, [], [], 0, false, 0, 0⟩, chkA l) else (sealA l, 0)
def encL (l : Lsa) : List Int × Int := if chkA l ≠ 0 then ([], chkA l) else if l.H.Sum ≠ sumA l then ([], 13) else (bytesA l, 0)
end Go.Proofs.Ythonenmafbpbkaa
