import Derived.Test.YthonenmafbpbkaaFXDS4
set_option linter.unusedSimpArgs false
set_option linter.unusedVariables false
namespace Go.Proofs.Ythonenmafbpbkaa
open Go Go.Am
end Go.Proofs.Ythonenmafbpbkaa

namespace Go.Proofs.Ythonenmafbpbkaa
open Go Go.Am
structure Lsa where
  H : Hdr
  Border : Bool
  Boundary : Bool
  Links : List Lnk
  Att : List Int
  Cost : Int
  Second : Bool
  Fwd : Int
  Tag : Int
  deriving DecidableEq
@[simp] def cellsA (l : Lsa) : List AVal := [.int .i64 l.H.Ty, .int .u32 l.H.ID, .int .i64 l.H.Len, .int .u32 l.H.Router, .int .i64 l.H.Seq, .int .i64 l.H.Age, .int .i64 l.H.Sum,
  .bool l.Border, .bool l.Boundary, .sl 4 (l.Links.map encK) .sh, .sl 1 (l.Att.map enc32) .sh, .int .i64 l.Cost, .bool l.Second, .int .u32 l.Fwd, .int .i64 l.Tag]
@[simp] def encA (l : Lsa) : AVal := .agg (cellsA l)
end Go.Proofs.Ythonenmafbpbkaa

namespace Go.Proofs.Ythonenmafbpbkaa
open Go Go.Am
end Go.Proofs.Ythonenmafbpbkaa

namespace Go.Proofs.Ythonenmafbpbkaa
open Go Go.Am
end Go.Proofs.Ythonenmafbpbkaa
