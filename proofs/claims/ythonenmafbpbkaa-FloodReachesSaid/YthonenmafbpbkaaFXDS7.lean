import Derived.Test.YthonenmafbpbkaaFFacts
import Derived.Test.YthonenmafbpbkaaBmV
set_option linter.unusedSimpArgs false
set_option linter.unusedVariables false
namespace Go.Proofs.Ythonenmafbpbkaa
open Go Go.Am
def inR (n lo hi : Int) : Bool := decide (lo ≤ n) && decide (n ≤ hi)
theorem c48 (n lo hi : Int) : CFun Try.prog 101 [.int .i64 n, .int .i64 lo, .int .i64 hi] [] (.bool (inR n lo hi)) [] := by
 refine CFun.intro (tr := []) (fz := []) (n := 15) (rs := [.tmp 6]) Try.func101 rfl (by kernel_rfl) rfl rfl mixed (by kernel_rfl) (by simp) (by simp) ?_
 by_cases h : lo ≤ n <;> simp [h, inR]
def hasP (t : Int) : Bool := decide (t = 2) || decide (t = 3) || decide (t = 5)
def clampI (n m : Int) : Int := if m < (if n < 0 then 0 else n) then m else if n < 0 then 0 else n
def maskI (n : Int) : Int := IntKind.u32.wrap (4294967295 * 2 ^ (min (32 - clampI n 32).toNat 32))
def keepI (x n : Int) : Int := IntKind.u32.wrap ((BitVec.ofInt 32 x &&& BitVec.ofInt 32 (maskI n)).toNat : Int)
def validP (a n : Int) : Bool := decide (0 ≤ n) && decide (n ≤ 32) && decide (keepI a n = a)
def memL (l : List Int) (x : Int) : Bool := decide (x ∈ l)
theorem get_drop {α : Type} {l : List α} {i : Nat} (hi : i < l.length) : ∃ x, l[i]? = some x ∧ l.drop i = x :: l.drop (i + 1) :=
 ⟨l[i], List.getElem?_eq_getElem hi, List.drop_eq_getElem_cons hi⟩
@[simp] def encI (x : Int) : AVal := .int .i64 x
@[simp] def enc32 (x : Int) : AVal := .int .u32 x
@[simp] def enc8 (x : Int) : AVal := .int .u8 x
end Go.Proofs.Ythonenmafbpbkaa

namespace Go.Proofs.Ythonenmafbpbkaa
open Go Go.Am
structure Hdr where
  Ty : Int
  ID : Int
  Len : Int
  Router : Int
  Seq : Int
  Age : Int
  Sum : Int
  deriving DecidableEq
@[simp] def cellsH (h : Hdr) : List AVal := [.int .i64 h.Ty, .int .u32 h.ID, .int .i64 h.Len, .int .u32 h.Router, .int .i64 h.Seq, .int .i64 h.Age, .int .i64 h.Sum]
@[simp] def encH (h : Hdr) : AVal := .agg (cellsH h)
def chkH (h : Hdr) : Int :=
 if inR h.Ty 1 5 = false then 15 else
 if h.Router = 0 ∨ inR h.Seq 1 2147483647 = false ∨ inR h.Age 0 3600 = false ∨ inR h.Sum 0 65535 = false ∨ inR h.Len 0 (if hasP h.Ty = true then 32 else 0) = false then 5 else
 if h.Ty = 1 ∧ h.ID ≠ h.Router then 14 else
 if (h.Ty = 3 ∨ h.Ty = 5) ∧ validP h.ID h.Len = false then 1 else
 if (h.Ty = 2 ∨ h.Ty = 4) ∧ h.ID = 0 then 1 else 0
end Go.Proofs.Ythonenmafbpbkaa

namespace Go.Proofs.Ythonenmafbpbkaa
open Go Go.Am
structure Lnk where
  Kind : Int
  ID : Int
  Data : Int
  Cost : Int
  deriving DecidableEq
@[simp] def cellsK (x : Lnk) : List AVal := [.int .i64 x.Kind, .int .u32 x.ID, .int .u32 x.Data, .int .i64 x.Cost]
@[simp] def encK (x : Lnk) : AVal := .agg (cellsK x)
def cmpI (a b : Int) : Int := if a < b then -1 else if b < a then 1 else 0
theorem c84 (a : Int) : CFun Try.prog 109 [.int .i64 a] [] (.bool false) [] := by
 refine CFun.intro (tr := []) (fz := []) (n := 6) (rs := [.tmp 2]) Try.func109 rfl (by kernel_rfl) rfl rfl mixed (by kernel_rfl) (by simp) (by simp) ?_
 simp
theorem c90 (a : Int) : CFun Try.prog 119 [.int .u32 a] [] (.bool false) [] := by
 refine CFun.intro (tr := []) (fz := []) (n := 6) (rs := [.tmp 2]) Try.func119 rfl (by kernel_rfl) rfl rfl mixed (by kernel_rfl) (by simp) (by simp) ?_
 simp
set_option maxRecDepth 10000 in
theorem c51 (a b : Int) : CFun Try.prog 90 [.int .i64 a, .int .i64 b] [] (.int .i64 (cmpI a b)) [] := by
 refine CFun.intro (tr := []) (fz := []) (n := 20) (rs := [.tmp 4]) Try.func90 rfl (by kernel_rfl) rfl rfl mixed (by kernel_rfl) (by simp) (by simp) ?_
 simp
 refine ⟨_, _, .inl (c84 a), trivial, ?_⟩
 simp
 refine ⟨_, _, .inl (c84 b), trivial, ?_⟩
 by_cases h : a < b
 · simp [h, cmpI]
 · by_cases h2 : b < a <;> simp [h, h2, cmpI]
set_option maxRecDepth 10000 in
theorem c62 (a b : Int) : CFun Try.prog 106 [.int .u32 a, .int .u32 b] [] (.int .i64 (cmpI a b)) [] := by
 refine CFun.intro (tr := []) (fz := []) (n := 20) (rs := [.tmp 4]) Try.func106 rfl (by kernel_rfl) rfl rfl mixed (by kernel_rfl) (by simp) (by simp) ?_
 simp
 refine ⟨_, _, .inl (c90 a), trivial, ?_⟩
 simp
 refine ⟨_, _, .inl (c90 b), trivial, ?_⟩
 by_cases h : a < b
 · simp [h, cmpI]
 · by_cases h2 : b < a <;> simp [h, h2, cmpI]
def orL : List Int → Int
 | [] => 0
 | x :: xs => if x = 0 then orL xs else x
set_option maxHeartbeats 1000000 in
set_option maxRecDepth 10000 in
theorem c50 (l : List Int) (n : Nat) (hn : (l.length : Int) = n) (hlen : n < 1099511627776) : CFun Try.prog 89 [.sl 1 (l.map encI) .sh] [] (.int .i64 (orL l)) [] := by
 refine CFun.intro (tr := []) (fz := []) (n := 18) (rs := [.tmp 2]) Try.func89 rfl (by kernel_rfl) rfl rfl mixed (by kernel_rfl) (by simp) (by simp) ?_
 simp [hn]
 refine LoopK.intro (tr := []) mixed (by kernel_rfl) (fun i : Nat => [(3, .int .i64 0), (6, .sl 1 (l.map encI) .sh), (7, .int .i64 n), (8, .int .i64 i)]) (fun _ => []) (fun i => i ≤ n ∧ orL l = orL (l.drop i)) (fun i => n - i) 0 ?_ ?_ ?_
 · simp
 · simp
 · rintro i ⟨h1, h2⟩
   by_cases hi : i < n
   · obtain ⟨y, hy, hd⟩ := get_drop (l := l) (i := i) (by omega)
     rw [hd] at h2
     have w1 : IntKind.i64.wrap ((i : Int) + 1) = i + 1 := wrap_in (by omega)
     clear hd hn
     by_cases hy0 : y = 0
     · simp [orL, hy0] at h2
       simp [hi, hy, hy0, w1]
       exact ⟨i + 1, ⟨by omega, h2⟩, by omega, by simp⟩
     · simp [orL, hy0] at h2
       simp [hi, hy, hy0, h2]
   · have e : l.drop i = [] := List.drop_of_length_le (by omega)
     rw [e] at h2
     simp [orL] at h2
     simp [hi, h2]
theorem whole {k : Nat} {xs : List AVal} : LeS (.sl k xs .full) (.sl k xs .sh) := ⟨rfl, .inr ⟨.inl rfl, .inl rfl⟩⟩
def ordK (a b : Lnk) : Int := orL [cmpI a.Kind b.Kind, cmpI a.ID b.ID, cmpI a.Data b.Data]
def stubLen (d : Int) : Int := IntKind.i64.wrap (if 33 < d then 33 else d)
def chkK (x : Lnk) (router : Int) : Int :=
 if inR x.Kind 1 3 = false then 15 else if inR x.Cost 1 65535 = false then 5 else
 if (x.Kind = 1 ∧ (x.ID = 0 ∨ x.ID = router)) ∨ (x.Kind = 3 ∧ validP x.ID (stubLen x.Data) = false) then 1 else 0
def chkKs (router : Int) : Option Lnk → List Lnk → Int
 | _, [] => 0
 | p, x :: xs => if chkK x router ≠ 0 then chkK x router else match p with
   | some q => if 0 ≤ ordK q x then 16 else chkKs router (some x) xs
   | none => chkKs router (some x) xs
def chkLinks (l : List Lnk) (router : Int) : Int := if 64 < l.length then 4 else chkKs router none l
def prevK (l : List Lnk) : Nat → Option Lnk
 | 0 => none
 | i + 1 => l[i]?
def attL : Int → List Int → Bool
 | _, [] => true
 | last, r :: rs => if r ≤ last then false else attL r rs
def chkAtt (l : List Int) (router : Int) : Int := if 64 < l.length then 4 else if attL 0 l = false then 16 else if memL l router = false then 14 else 0
end Go.Proofs.Ythonenmafbpbkaa

namespace Go.Proofs.Ythonenmafbpbkaa
open Go Go.Am
@[simp] def encBs (b : List Int) : AVal := .sl 1 (b.map enc8) .sh
def bt (x : Int) (i : Nat) : Int := IntKind.u8.wrap (x.fdiv (2 ^ (8 * i)))
def numB : Nat → Int → List Int
 | 0, _ => []
 | n + 1, x => bt x n :: numB n x
theorem numB_len (n : Nat) (x : Int) : (numB n x).length = n := by
 induction n with
 | zero => rfl
 | succ n ih => simp [numB, ih]
theorem flat_take {α : Type} (ps : List (List α)) (i : Nat) (p : List α) (h : ps[i]? = some p) : (ps.take (i + 1)).flatten = (ps.take i).flatten ++ p := by
 rw [List.take_add_one, h]; simp
end Go.Proofs.Ythonenmafbpbkaa

namespace Go.Proofs.Ythonenmafbpbkaa
open Go Go.Am
abbrev U (x : Int) : Int := IntKind.u64.wrap x
def hdrB (h : Hdr) : List Int := numB 2 (U h.Age) ++ numB 1 (U h.Ty) ++ numB 1 (U h.Len) ++ numB 4 (U h.ID) ++ numB 4 (U h.Router) ++ numB 4 (U h.Seq) ++ numB 2 (U h.Sum)
theorem hdrB_len (h : Hdr) : (hdrB h).length = 18 := by simp [hdrB, numB_len]
end Go.Proofs.Ythonenmafbpbkaa

namespace Go.Proofs.Ythonenmafbpbkaa
open Go Go.Am
structure Lsa where
  H : Hdr
  Border : Bool
  Boundary : Bool
  Links : List Lnk
  Att : List Int
  Cost : Int
  Second : Bool
  Fwd : Int
  Tag : Int
  deriving DecidableEq
@[simp] def cellsA (l : Lsa) : List AVal := [.int .i64 l.H.Ty, .int .u32 l.H.ID, .int .i64 l.H.Len, .int .u32 l.H.Router, .int .i64 l.H.Seq, .int .i64 l.H.Age, .int .i64 l.H.Sum,
  .bool l.Border, .bool l.Boundary, .sl 4 (l.Links.map encK) .sh, .sl 1 (l.Att.map enc32) .sh, .int .i64 l.Cost, .bool l.Second, .int .u32 l.Fwd, .int .i64 l.Tag]
@[simp] def encA (l : Lsa) : AVal := .agg (cellsA l)
def flagI (b : Bool) (n : Int) : Int := if b = true then n else 0
def orU (a b : Int) : Int := IntKind.u64.wrap (((a % 2 ^ IntKind.u64.bits).toNat ||| (b % 2 ^ IntKind.u64.bits).toNat : Nat) : Int)
def linkB (x : Lnk) : List Int := numB 1 (U x.Kind) ++ numB 4 (U x.ID) ++ numB 4 (U x.Data) ++ numB 2 (U x.Cost)
def attB (x : Int) : List Int := numB 4 (U x)
def bodyB (l : Lsa) : List Int :=
 if l.H.Ty = 1 then numB 1 (orU (flagI l.Border 1) (flagI l.Boundary 2)) ++ numB 1 (U l.Links.length) ++ (l.Links.map linkB).flatten
 else if l.H.Ty = 2 then numB 1 (U l.Att.length) ++ (l.Att.map attB).flatten
 else if l.H.Ty = 3 ∨ l.H.Ty = 4 then numB 4 (U l.Cost)
 else if l.H.Ty = 5 then numB 1 (flagI l.Second 1) ++ numB 4 (U l.Cost) ++ numB 4 (U l.Fwd) ++ numB 4 (U l.Tag)
 else []
theorem linkB_len (x : Lnk) : (linkB x).length = 11 := by simp [linkB, numB_len]
theorem attB_len (x : Int) : (attB x).length = 4 := by simp [attB, numB_len]
theorem take_map {α β : Type} (f : α → List β) (l : List α) (i : Nat) (x : α) (h : l[i]? = some x) : ((l.map f).take (i + 1)).flatten = ((l.map f).take i).flatten ++ f x :=
 flat_take _ _ _ (by simp [h])
end Go.Proofs.Ythonenmafbpbkaa

namespace Go.Proofs.Ythonenmafbpbkaa
open Go Go.Am
theorem bodyB_len (l : Lsa) (hl : l.Links.length ≤ 64) (ha : l.Att.length ≤ 64) : (bodyB l).length ≤ 706 := by
 have h1 : ((l.Links.map linkB).flatten).length = l.Links.length * 11 := by
   induction l.Links with
   | nil => rfl
   | cons x xs ih => simp only [List.map_cons, List.flatten_cons, List.length_append, linkB_len, List.length_cons, ih]; omega
 have h2 : ((l.Att.map attB).flatten).length = l.Att.length * 4 := by
   induction l.Att with
   | nil => rfl
   | cons x xs ih => simp only [List.map_cons, List.flatten_cons, List.length_append, attB_len, List.length_cons, ih]; omega
 unfold bodyB
 split
 · simp only [List.length_append, numB_len, h1]; omega
 · split
   · simp only [List.length_append, numB_len, h2]; omega
   · split
     · simp [numB_len]
     · split <;> simp [numB_len]
def bytesA (l : Lsa) : List Int := hdrB l.H ++ numB 2 (U (bodyB l).length) ++ bodyB l
theorem bytesA_len (l : Lsa) (hl : l.Links.length ≤ 64) (ha : l.Att.length ≤ 64) : (bytesA l).length ≤ 726 := by
 have := bodyB_len l hl ha
 simp only [bytesA, List.length_append, hdrB_len, numB_len]; omega
def resI (n : Int) : Int := IntKind.i64.wrap ((IntKind.i64.wrap ((IntKind.i64.wrap (n - 1)).tmod 255 + 255)).tmod 255 + 1)
def sumStep (n : Int) (skip : Int) (i : Nat) (s : Int × Int) (b : Int) : Int × Int :=
 if 0 ≤ skip ∧ ((i : Int) = skip ∨ (i : Int) = IntKind.i64.wrap (skip + 1)) then s else
 ((IntKind.i64.wrap (s.1 + IntKind.i64.wrap b)).tmod 255, (IntKind.i64.wrap (s.2 + IntKind.i64.wrap ((IntKind.i64.wrap (n - i)).tmod 255 * IntKind.i64.wrap b))).tmod 255)
def sumsL (n : Int) (skip : Int) : List Int → Nat → Int × Int → Int × Int
 | [], _, s => s
 | b :: bs, i, s => sumsL n skip bs (i + 1) (sumStep n skip i s b)
def fletch (b : List Int) (at_ : Int) : Int × Bool :=
 if at_ < 0 ∨ IntKind.i64.wrap ((b.length : Int) - 1) ≤ at_ then (0, false) else
 let s := sumsL b.length at_ b 0 (0, 0)
 let x := resI (IntKind.i64.wrap (IntKind.i64.wrap ((IntKind.i64.wrap (IntKind.i64.wrap ((b.length : Int) - at_) - 1)).tmod 255 * s.1) - s.2))
 let y := resI (IntKind.i64.wrap (IntKind.i64.wrap (0 - s.1) - x))
 (IntKind.i64.wrap (IntKind.i64.wrap (256 * x) + y), true)
def sumA (l : Lsa) : Int := (fletch ((bytesA l).drop 2) 14).1
end Go.Proofs.Ythonenmafbpbkaa
