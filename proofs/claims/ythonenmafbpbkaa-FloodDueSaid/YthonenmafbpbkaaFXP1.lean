import Derived.Test.YthonenmafbpbkaaFXE14
set_option linter.unusedSimpArgs false
set_option linter.unusedVariables false
namespace Go.Proofs.Ythonenmafbpbkaa
open Go Go.Am
end Go.Proofs.Ythonenmafbpbkaa

namespace Go.Proofs.Ythonenmafbpbkaa
open Go Go.Am
end Go.Proofs.Ythonenmafbpbkaa

namespace Go.Proofs.Ythonenmafbpbkaa
open Go Go.Am
end Go.Proofs.Ythonenmafbpbkaa

/- The exchange of databases: what its functions answer. -/
namespace Go.Proofs.Ythonenmafbpbkaa
open Go Go.Am
structure Nbr where
  Router : Int
  Addr : Int
  Pri : Int
  DR : Int
  BDR : Int
  State : Int
  Til : Int
  Master : Bool
  Seq : Int
  Lst : List Hdr
  Sent : List Hdr
  More : Bool
  Req : List Hdr
  Una : List Hdr
  Rsd : Int
  deriving DecidableEq
@[simp] def cellsNx (n : Nbr) (x : AVal) : List AVal := [.int .u32 n.Router, .int .u32 n.Addr, .int .i64 n.Pri, .int .u32 n.DR, .int .u32 n.BDR, .int .i64 n.State, .int .i64 n.Til, .bool n.Master, .int .i64 n.Seq,
  .sl 7 (n.Lst.map encH) .sh, .sl 7 (n.Sent.map encH) .sh, .bool n.More, x, .sl 7 (n.Una.map encH) .sh, .int .i64 n.Rsd]
@[simp] def cellsN (n : Nbr) : List AVal := cellsNx n (.sl 7 (n.Req.map encH) .sh)
@[simp] def encN (n : Nbr) : AVal := .agg (cellsN n)
def waitsN (n : Nbr) : Bool := decide (n.State = 3) || (decide (n.State = 4) && n.Master) || decide (n.State = 5)
end Go.Proofs.Ythonenmafbpbkaa
