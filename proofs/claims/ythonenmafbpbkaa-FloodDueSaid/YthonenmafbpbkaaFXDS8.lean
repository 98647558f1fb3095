import Derived.Test.YthonenmafbpbkaaFXDS4
set_option linter.unusedSimpArgs false
set_option linter.unusedVariables false
namespace Go.Proofs.Ythonenmafbpbkaa
open Go Go.Am
abbrev U (x : Int) : Int := IntKind.u64.wrap x
def hdrB (h : Hdr) : List Int := numB 2 (U h.Age) ++ numB 1 (U h.Ty) ++ numB 1 (U h.Len) ++ numB 4 (U h.ID) ++ numB 4 (U h.Router) ++ numB 4 (U h.Seq) ++ numB 2 (U h.Sum)
end Go.Proofs.Ythonenmafbpbkaa

namespace Go.Proofs.Ythonenmafbpbkaa
open Go Go.Am
structure Lsa where
  H : Hdr
  Border : Bool
  Boundary : Bool
  Links : List Lnk
  Att : List Int
  Cost : Int
  Second : Bool
  Fwd : Int
  Tag : Int
  deriving DecidableEq
@[simp] def cellsA (l : Lsa) : List AVal := [.int .i64 l.H.Ty, .int .u32 l.H.ID, .int .i64 l.H.Len, .int .u32 l.H.Router, .int .i64 l.H.Seq, .int .i64 l.H.Age, .int .i64 l.H.Sum,
  .bool l.Border, .bool l.Boundary, .sl 4 (l.Links.map encK) .sh, .sl 1 (l.Att.map enc32) .sh, .int .i64 l.Cost, .bool l.Second, .int .u32 l.Fwd, .int .i64 l.Tag]
@[simp] def encA (l : Lsa) : AVal := .agg (cellsA l)
def flagI (b : Bool) (n : Int) : Int := if b = true then n else 0
def orU (a b : Int) : Int := IntKind.u64.wrap (((a % 2 ^ IntKind.u64.bits).toNat ||| (b % 2 ^ IntKind.u64.bits).toNat : Nat) : Int)
def linkB (x : Lnk) : List Int := numB 1 (U x.Kind) ++ numB 4 (U x.ID) ++ numB 4 (U x.Data) ++ numB 2 (U x.Cost)
def attB (x : Int) : List Int := numB 4 (U x)
def bodyB (l : Lsa) : List Int :=
 if l.H.Ty = 1 then numB 1 (orU (flagI l.Border 1) (flagI l.Boundary 2)) ++ numB 1 (U l.Links.length) ++ (l.Links.map linkB).flatten
 else if l.H.Ty = 2 then numB 1 (U l.Att.length) ++ (l.Att.map attB).flatten
 else if l.H.Ty = 3 ∨ l.H.Ty = 4 then numB 4 (U l.Cost)
 else if l.H.Ty = 5 then numB 1 (flagI l.Second 1) ++ numB 4 (U l.Cost) ++ numB 4 (U l.Fwd) ++ numB 4 (U l.Tag)
 else []
end Go.Proofs.Ythonenmafbpbkaa

namespace Go.Proofs.Ythonenmafbpbkaa
open Go Go.Am
def bytesA (l : Lsa) : List Int := hdrB l.H ++ numB 2 (U (bodyB l).length) ++ bodyB l
def resI (n : Int) : Int := IntKind.i64.wrap ((IntKind.i64.wrap ((IntKind.i64.wrap (n - 1)).tmod 255 + 255)).tmod 255 + 1)
def sumStep (n : Int) (skip : Int) (i : Nat) (s : Int × Int) (b : Int) : Int × Int :=
 if 0 ≤ skip ∧ ((i : Int) = skip ∨ (i : Int) = IntKind.i64.wrap (skip + 1)) then s else
 ((IntKind.i64.wrap (s.1 + IntKind.i64.wrap b)).tmod 255, (IntKind.i64.wrap (s.2 + IntKind.i64.wrap ((IntKind.i64.wrap (n - i)).tmod 255 * IntKind.i64.wrap b))).tmod 255)
def sumsL (n : Int) (skip : Int) : List Int → Nat → Int × Int → Int × Int
 | [], _, s => s
 | b :: bs, i, s => sumsL n skip bs (i + 1) (sumStep n skip i s b)
def fletch (b : List Int) (at_ : Int) : Int × Bool :=
 if at_ < 0 ∨ IntKind.i64.wrap ((b.length : Int) - 1) ≤ at_ then (0, false) else
 let s := sumsL b.length at_ b 0 (0, 0)
 let x := resI (IntKind.i64.wrap (IntKind.i64.wrap ((IntKind.i64.wrap (IntKind.i64.wrap ((b.length : Int) - at_) - 1)).tmod 255 * s.1) - s.2))
 let y := resI (IntKind.i64.wrap (IntKind.i64.wrap (0 - s.1) - x))
 (IntKind.i64.wrap (IntKind.i64.wrap (256 * x) + y), true)
def sumA (l : Lsa) : Int := (fletch ((bytesA l).drop 2) 14).1
end Go.Proofs.Ythonenmafbpbkaa

namespace Go.Proofs.Ythonenmafbpbkaa
open Go Go.Am
def forB (l : Lsa) : Bool :=
 if memL [1] l.H.Ty = false ∧ (l.Border = true ∨ l.Boundary = true ∨ 0 < l.Links.length) then true else
 if memL [2] l.H.Ty = false ∧ 0 < l.Att.length then true else
 if memL [3, 4, 5] l.H.Ty = false ∧ l.Cost ≠ 0 then true else
 !memL [5] l.H.Ty && (l.Second || decide (l.Fwd ≠ 0) || decide (l.Tag ≠ 0))
def chkA (l : Lsa) : Int :=
 if chkH l.H ≠ 0 then chkH l.H else if forB l = true then 1 else
 if l.H.Ty = 1 then chkLinks l.Links l.H.Router else if l.H.Ty = 2 then chkAtt l.Att l.H.Router else
 if inR l.Cost 0 16777216 = false ∨ inR l.Tag 0 4294967295 = false then 5 else 0
end Go.Proofs.Ythonenmafbpbkaa
