import Derived.Test.YtfngaildaoahpaaXDS3
set_option linter.unusedSimpArgs false
set_option linter.unusedVariables false
namespace Go.Proofs.Ytfngaildaoahpaa
open Go Go.Am
@[simp] def encBs (b : List Int) : AVal := .sl 1 (b.map enc8) .sh
def bt (x : Int) (i : Nat) : Int := IntKind.u8.wrap (x.fdiv (2 ^ (8 * i)))
def numB : Nat → Int → List Int
 | 0, _ => []
 | n + 1, x => bt x n :: numB n x
theorem numB_len (n : Nat) (x : Int) : (numB n x).length = n := by
 induction n with
 | zero => rfl
 | succ n ih => simp [numB, ih]
theorem flat_take {α : Type} (ps : List (List α)) (i : Nat) (p : List α) (h : ps[i]? = some p) : (ps.take (i + 1)).flatten = (ps.take i).flatten ++ p := by
 rw [List.take_add_one, h]; simp
end Go.Proofs.Ytfngaildaoahpaa

namespace Go.Proofs.Ytfngaildaoahpaa
open Go Go.Am
abbrev U (x : Int) : Int := IntKind.u64.wrap x
def hdrB (h : Hdr) : List Int := numB 2 (U h.Age) ++ numB 1 (U h.Ty) ++ numB 1 (U h.Len) ++ numB 4 (U h.ID) ++ numB 4 (U h.Router) ++ numB 4 (U h.Seq) ++ numB 2 (U h.Sum)
theorem hdrB_len (h : Hdr) : (hdrB h).length = 18 := by simp [hdrB, numB_len]
end Go.Proofs.Ytfngaildaoahpaa

namespace Go.Proofs.Ytfngaildaoahpaa
open Go Go.Am
structure Lsa where
  H : Hdr
  Border : Bool
  Boundary : Bool
  Links : List Lnk
  Att : List Int
  Cost : Int
  Second : Bool
  Fwd : Int
  Tag : Int
  deriving DecidableEq
@[simp] def cellsA (l : Lsa) : List AVal := [.int .i64 l.H.Ty, .int .u32 l.H.ID, .int .i64 l.H.Len, .int .u32 l.H.Router, .int .i64 l.H.Seq, .int .i64 l.H.Age, .int .i64 l.H.Sum,
  .bool l.Border, .bool l.Boundary, .sl 4 (l.Links.map encK) .sh, .sl 1 (l.Att.map enc32) .sh, .int .i64 l.Cost, .bool l.Second, .int .u32 l.Fwd, .int .i64 l.Tag]
@[simp] def encA (l : Lsa) : AVal := .agg (cellsA l)
def flagI (b : Bool) (n : Int) : Int := if b = true then n else 0
def orU (a b : Int) : Int := IntKind.u64.wrap (((a % 2 ^ IntKind.u64.bits).toNat ||| (b % 2 ^ IntKind.u64.bits).toNat : Nat) : Int)
def linkB (x : Lnk) : List Int := numB 1 (U x.Kind) ++ numB 4 (U x.ID) ++ numB 4 (U x.Data) ++ numB 2 (U x.Cost)
def attB (x : Int) : List Int := numB 4 (U x)
def bodyB (l : Lsa) : List Int :=
 if l.H.Ty = 1 then numB 1 (orU (flagI l.Border 1) (flagI l.Boundary 2)) ++ numB 1 (U l.Links.length) ++ (l.Links.map linkB).flatten
 else if l.H.Ty = 2 then numB 1 (U l.Att.length) ++ (l.Att.map attB).flatten
 else if l.H.Ty = 3 ∨ l.H.Ty = 4 then numB 4 (U l.Cost)
 else if l.H.Ty = 5 then numB 1 (flagI l.Second 1) ++ numB 4 (U l.Cost) ++ numB 4 (U l.Fwd) ++ numB 4 (U l.Tag)
 else []
theorem linkB_len (x : Lnk) : (linkB x).length = 11 := by simp [linkB, numB_len]
theorem attB_len (x : Int) : (attB x).length = 4 := by simp [attB, numB_len]
theorem take_map {α β : Type} (f : α → List β) (l : List α) (i : Nat) (x : α) (h : l[i]? = some x) : ((l.map f).take (i + 1)).flatten = ((l.map f).take i).flatten ++ f x :=
 flat_take _ _ _ (by simp [h])
end Go.Proofs.Ytfngaildaoahpaa

namespace Go.Proofs.Ytfngaildaoahpaa
open Go Go.Am
theorem bodyB_len (l : Lsa) (hl : l.Links.length ≤ 64) (ha : l.Att.length ≤ 64) : (bodyB l).length ≤ 706 := by
 have h1 : ((l.Links.map linkB).flatten).length = l.Links.length * 11 := by
   induction l.Links with
   | nil => rfl
   | cons x xs ih => simp only [List.map_cons, List.flatten_cons, List.length_append, linkB_len, List.length_cons, ih]; omega
 have h2 : ((l.Att.map attB).flatten).length = l.Att.length * 4 := by
   induction l.Att with
   | nil => rfl
   | cons x xs ih => simp only [List.map_cons, List.flatten_cons, List.length_append, attB_len, List.length_cons, ih]; omega
 unfold bodyB
 split
 · simp only [List.length_append, numB_len, h1]; omega
 · split
   · simp only [List.length_append, numB_len, h2]; omega
   · split
     · simp [numB_len]
     · split <;> simp [numB_len]
def bytesA (l : Lsa) : List Int := hdrB l.H ++ numB 2 (U (bodyB l).length) ++ bodyB l
theorem bytesA_len (l : Lsa) (hl : l.Links.length ≤ 64) (ha : l.Att.length ≤ 64) : (bytesA l).length ≤ 726 := by
 have := bodyB_len l hl ha
 simp only [bytesA, List.length_append, hdrB_len, numB_len]; omega
def resI (n : Int) : Int := IntKind.i64.wrap ((IntKind.i64.wrap ((IntKind.i64.wrap (n - 1)).tmod 255 + 255)).tmod 255 + 1)
def sumStep (n : Int) (skip : Int) (i : Nat) (s : Int × Int) (b : Int) : Int × Int :=
 if 0 ≤ skip ∧ ((i : Int) = skip ∨ (i : Int) = IntKind.i64.wrap (skip + 1)) then s else
 ((IntKind.i64.wrap (s.1 + IntKind.i64.wrap b)).tmod 255, (IntKind.i64.wrap (s.2 + IntKind.i64.wrap ((IntKind.i64.wrap (n - i)).tmod 255 * IntKind.i64.wrap b))).tmod 255)
def sumsL (n : Int) (skip : Int) : List Int → Nat → Int × Int → Int × Int
 | [], _, s => s
 | b :: bs, i, s => sumsL n skip bs (i + 1) (sumStep n skip i s b)
def fletch (b : List Int) (at_ : Int) : Int × Bool :=
 if at_ < 0 ∨ IntKind.i64.wrap ((b.length : Int) - 1) ≤ at_ then (0, false) else
 let s := sumsL b.length at_ b 0 (0, 0)
 let x := resI (IntKind.i64.wrap (IntKind.i64.wrap ((IntKind.i64.wrap (IntKind.i64.wrap ((b.length : Int) - at_) - 1)).tmod 255 * s.1) - s.2))
 let y := resI (IntKind.i64.wrap (IntKind.i64.wrap (0 - s.1) - x))
 (IntKind.i64.wrap (IntKind.i64.wrap (256 * x) + y), true)
def sumA (l : Lsa) : Int := (fletch ((bytesA l).drop 2) 14).1
end Go.Proofs.Ytfngaildaoahpaa
