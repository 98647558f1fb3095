import Derived.Test.YthonenmafbpbkaaFFacts
import Derived.Test.YthonenmafbpbkaaBmV
set_option linter.unusedSimpArgs false
set_option linter.unusedVariables false
namespace Go.Proofs.Ythonenmafbpbkaa
open Go Go.Am
theorem get_drop {α : Type} {l : List α} {i : Nat} (hi : i < l.length) : ∃ x, l[i]? = some x ∧ l.drop i = x :: l.drop (i + 1) :=
 ⟨l[i], List.getElem?_eq_getElem hi, List.drop_eq_getElem_cons hi⟩
@[simp] def encI (x : Int) : AVal := .int .i64 x
@[simp] def enc32 (x : Int) : AVal := .int .u32 x
@[simp] def enc8 (x : Int) : AVal := .int .u8 x
end Go.Proofs.Ythonenmafbpbkaa

namespace Go.Proofs.Ythonenmafbpbkaa
open Go Go.Am
structure Hdr where
  Ty : Int
  ID : Int
  Len : Int
  Router : Int
  Seq : Int
  Age : Int
  Sum : Int
  deriving DecidableEq
@[simp] def cellsH (h : Hdr) : List AVal := [.int .i64 h.Ty, .int .u32 h.ID, .int .i64 h.Len, .int .u32 h.Router, .int .i64 h.Seq, .int .i64 h.Age, .int .i64 h.Sum]
@[simp] def encH (h : Hdr) : AVal := .agg (cellsH h)
end Go.Proofs.Ythonenmafbpbkaa

namespace Go.Proofs.Ythonenmafbpbkaa
open Go Go.Am
structure Lnk where
  Kind : Int
  ID : Int
  Data : Int
  Cost : Int
  deriving DecidableEq
@[simp] def cellsK (x : Lnk) : List AVal := [.int .i64 x.Kind, .int .u32 x.ID, .int .u32 x.Data, .int .i64 x.Cost]
@[simp] def encK (x : Lnk) : AVal := .agg (cellsK x)
def cmpI (a b : Int) : Int := if a < b then -1 else if b < a then 1 else 0
theorem c84 (a : Int) : CFun Try.prog 109 [.int .i64 a] [] (.bool false) [] := by
 refine CFun.intro (tr := []) (fz := []) (n := 6) (rs := [.tmp 2]) Try.func109 rfl (by kernel_rfl) rfl rfl mixed (by kernel_rfl) (by simp) (by simp) ?_
 simp
set_option maxRecDepth 10000 in
theorem c51 (a b : Int) : CFun Try.prog 90 [.int .i64 a, .int .i64 b] [] (.int .i64 (cmpI a b)) [] := by
 refine CFun.intro (tr := []) (fz := []) (n := 20) (rs := [.tmp 4]) Try.func90 rfl (by kernel_rfl) rfl rfl mixed (by kernel_rfl) (by simp) (by simp) ?_
 simp
 refine ⟨_, _, .inl (c84 a), trivial, ?_⟩
 simp
 refine ⟨_, _, .inl (c84 b), trivial, ?_⟩
 by_cases h : a < b
 · simp [h, cmpI]
 · by_cases h2 : b < a <;> simp [h, h2, cmpI]
def orL : List Int → Int
 | [] => 0
 | x :: xs => if x = 0 then orL xs else x
set_option maxHeartbeats 1000000 in
set_option maxRecDepth 10000 in
theorem c50 (l : List Int) (n : Nat) (hn : (l.length : Int) = n) (hlen : n < 1099511627776) : CFun Try.prog 89 [.sl 1 (l.map encI) .sh] [] (.int .i64 (orL l)) [] := by
 refine CFun.intro (tr := []) (fz := []) (n := 18) (rs := [.tmp 2]) Try.func89 rfl (by kernel_rfl) rfl rfl mixed (by kernel_rfl) (by simp) (by simp) ?_
 simp [hn]
 refine LoopK.intro (tr := []) mixed (by kernel_rfl) (fun i : Nat => [(3, .int .i64 0), (6, .sl 1 (l.map encI) .sh), (7, .int .i64 n), (8, .int .i64 i)]) (fun _ => []) (fun i => i ≤ n ∧ orL l = orL (l.drop i)) (fun i => n - i) 0 ?_ ?_ ?_
 · simp
 · simp
 · rintro i ⟨h1, h2⟩
   by_cases hi : i < n
   · obtain ⟨y, hy, hd⟩ := get_drop (l := l) (i := i) (by omega)
     rw [hd] at h2
     have w1 : IntKind.i64.wrap ((i : Int) + 1) = i + 1 := wrap_in (by omega)
     clear hd hn
     by_cases hy0 : y = 0
     · simp [orL, hy0] at h2
       simp [hi, hy, hy0, w1]
       exact ⟨i + 1, ⟨by omega, h2⟩, by omega, by simp⟩
     · simp [orL, hy0] at h2
       simp [hi, hy, hy0, h2]
   · have e : l.drop i = [] := List.drop_of_length_le (by omega)
     rw [e] at h2
     simp [orL] at h2
     simp [hi, h2]
theorem whole {k : Nat} {xs : List AVal} : LeS (.sl k xs .full) (.sl k xs .sh) := ⟨rfl, .inr ⟨.inl rfl, .inl rfl⟩⟩
end Go.Proofs.Ythonenmafbpbkaa

namespace Go.Proofs.Ythonenmafbpbkaa
open Go Go.Am
@[simp] def encBs (b : List Int) : AVal := .sl 1 (b.map enc8) .sh
end Go.Proofs.Ythonenmafbpbkaa
