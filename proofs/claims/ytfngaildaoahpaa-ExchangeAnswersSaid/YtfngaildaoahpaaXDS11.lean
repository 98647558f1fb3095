import Derived.Test.YtfngaildaoahpaaXDS7
set_option linter.unusedSimpArgs false
set_option linter.unusedVariables false
namespace Go.Proofs.Ytfngaildaoahpaa
open Go Go.Am
def forB (l : Lsa) : Bool :=
 if memL [1] l.H.Ty = false ∧ (l.Border = true ∨ l.Boundary = true ∨ 0 < l.Links.length) then true else
 if memL [2] l.H.Ty = false ∧ 0 < l.Att.length then true else
 if memL [3, 4, 5] l.H.Ty = false ∧ l.Cost ≠ 0 then true else
 !memL [5] l.H.Ty && (l.Second || decide (l.Fwd ≠ 0) || decide (l.Tag ≠ 0))
theorem memL1 (a x : Int) : memL [a] x = decide (x = a) := by simp [memL]
def chkA (l : Lsa) : Int :=
 if chkH l.H ≠ 0 then chkH l.H else if forB l = true then 1 else
 if l.H.Ty = 1 then chkLinks l.Links l.H.Router else if l.H.Ty = 2 then chkAtt l.Att l.H.Router else
 if inR l.Cost 0 16777216 = false ∨ inR l.Tag 0 4294967295 = false then 5 else 0
theorem chkA_len {l : Lsa} (h : chkA l = 0) : l.Links.length ≤ 64 ∧ l.Att.length ≤ 64 := by
 unfold chkA at h
 split at h
 · contradiction
 · split at h
   · cases h
   · rename_i h2
     have hL : l.H.Ty ≠ 1 → l.Links.length = 0 := by
       intro hne
       by_cases e : 0 < l.Links.length
       · exact (h2 (by simp [forB, memL1, hne, e])).elim
       · omega
     have hA : l.H.Ty ≠ 2 → l.Att.length = 0 := by
       intro hne
       by_cases e : 0 < l.Att.length
       · refine (h2 ?_).elim
         unfold forB
         split
         · rfl
         · rw [if_pos ⟨by simp [memL1, hne], e⟩]
       · omega
     split at h
     · rename_i t1
       have := hA (by omega)
       unfold chkLinks at h
       split at h
       · cases h
       · omega
     · rename_i t1
       have := hL t1
       split at h
       · unfold chkAtt at h
         split at h
         · cases h
         · omega
       · rename_i t2
         have := hA t2
         omega
end Go.Proofs.Ytfngaildaoahpaa

namespace Go.Proofs.Ytfngaildaoahpaa
open Go Go.Am
def ageGap (a b : Hdr) : Int := IntKind.u64.wrap (IntKind.u64.wrap (if a.Age < b.Age then b.Age else a.Age) - IntKind.u64.wrap (if b.Age < a.Age then b.Age else a.Age))
def cmpH (a b : Hdr) : Int :=
 if orL [cmpI a.Seq b.Seq, cmpI a.Sum b.Sum] ≠ 0 then orL [cmpI a.Seq b.Seq, cmpI a.Sum b.Sum] else
 if a.Age = 3600 ∧ b.Age ≠ 3600 then 1 else if b.Age = 3600 ∧ a.Age ≠ 3600 then -1 else
 if ageGap a b ≤ 900 then 0 else cmpI b.Age a.Age
def sealA (l : Lsa) : Lsa := { l with H := { l.H with Sum := sumA l } }
def sealL (l : Lsa) : Lsa × Int := if chkA l ≠ 0 then (⟨⟨0, 0, 0, 0, 0, 0, 0⟩, false, false, [], [], 0, false, 0, 0⟩, chkA l) else (sealA l, 0)
def encL (l : Lsa) : List Int × Int := if chkA l ≠ 0 then ([], chkA l) else if l.H.Sum ≠ sumA l then ([], 13) else (bytesA l, 0)
end Go.Proofs.Ytfngaildaoahpaa

namespace Go.Proofs.Ytfngaildaoahpaa
open Go Go.Am
def smp : Lsa := ⟨⟨3, 167772160, 8, 1, 4, 0, 0⟩, false, false, [], [], 7, false, 0, 0⟩
def smpS : Lsa := ⟨⟨3, 167772160, 8, 1, 4, 0, sumA smp⟩, false, false, [], [], 7, false, 0, 0⟩
def h1 : Hdr := ⟨1, 1, 0, 1, 4, 100, 0⟩
def h2 : Hdr := ⟨1, 1, 0, 1, 3, 100, 0⟩
def h3 : Hdr := ⟨1, 1, 0, 1, 4, 1100, 0⟩
def h4 : Hdr := ⟨1, 1, 0, 1, 4, 1000, 0⟩
theorem v1 : sealL smp = (smpS, 0) := by decide +kernel
theorem v2 : (encL smpS).2 = 0 ∧ (encL smpS).1.length = 24 := by decide +kernel
theorem v3 : cmpH h1 h2 = 1 ∧ cmpH h1 h3 = 1 ∧ cmpH h1 h4 = 0 := by decide +kernel
end Go.Proofs.Ytfngaildaoahpaa

namespace Go.Proofs.Ytfngaildaoahpaa
open Go Go.Am
theorem cmpI_zero (a b : Int) : cmpI a b = 0 ↔ a = b := by
 unfold cmpI; split
 · omega
 · split <;> omega
theorem c52 (a b : Int) : CFun Try.prog 55 [.int .i64 a, .int .i64 b] [] (.int .i64 (cmpI a b)) [] := by
 refine CFun.intro (tr := []) (fz := []) (n := 11) (rs := [.tmp 4]) Try.func55 rfl (by kernel_rfl) rfl rfl mixed (by kernel_rfl) (by simp) (by simp) ?_
 by_cases h : a < b
 · simp [h, cmpI]
 · by_cases h2 : b < a <;> simp [h, h2, cmpI]
def inI (x : Int) : Prop := -9223372036854775808 ≤ x ∧ x ≤ 9223372036854775807
theorem wrap_u64 (x : Int) : IntKind.u64.wrap x = x % 18446744073709551616 := rfl
end Go.Proofs.Ytfngaildaoahpaa
