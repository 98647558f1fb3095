import Derived.Test.YtfngaildaoahpaaXE21
set_option linter.unusedSimpArgs false
set_option linter.unusedVariables false
namespace Go.Proofs.Ytfngaildaoahpaa
end Go.Proofs.Ytfngaildaoahpaa

namespace Go.Proofs.Ytfngaildaoahpaa
open Go Go.Am
structure Hel where
  Len : Int
  Hello : Int
  Dead : Int
  Pri : Int
  DR : Int
  BDR : Int
  Seen : List Int
  deriving DecidableEq
@[simp] def cellsE (h : Hel) : List AVal := [.int .i64 h.Len, .int .i64 h.Hello, .int .i64 h.Dead, .int .i64 h.Pri, .int .u32 h.DR, .int .u32 h.BDR, .sl 1 (h.Seen.map enc32) .sh]
@[simp] def encE (h : Hel) : AVal := .agg (cellsE h)
structure Pkt where
  Kind : Int
  Router : Int
  Area : Int
  Addr : Int
  E : Hel
  Seq : Int
  Init : Bool
  More : Bool
  Master : Bool
  Heads : List Hdr
  Keys : List LKey
  Lsas : List Lsa
  deriving DecidableEq
@[simp] def cellsPk (p : Pkt) : List AVal := [.int .i64 p.Kind, .int .u32 p.Router, .int .u32 p.Area, .int .u32 p.Addr,
  .int .i64 p.E.Len, .int .i64 p.E.Hello, .int .i64 p.E.Dead, .int .i64 p.E.Pri, .int .u32 p.E.DR, .int .u32 p.E.BDR, .sl 1 (p.E.Seen.map enc32) .sh,
  .int .i64 p.Seq, .bool p.Init, .bool p.More, .bool p.Master, .sl 7 (p.Heads.map encH) .sh, .sl 4 (p.Keys.map encY) .sh, .sl 15 (p.Lsas.map encA) .sh]
@[simp] def encPk (p : Pkt) : AVal := .agg (cellsPk p)
def hel0 : Hel := ⟨0, 0, 0, 0, 0, 0, []⟩
def pkt0 : Pkt := ⟨0, 0, 0, 0, hel0, 0, false, false, false, [], [], []⟩
end Go.Proofs.Ytfngaildaoahpaa

namespace Go.Proofs.Ytfngaildaoahpaa
open Go Go.Am
end Go.Proofs.Ytfngaildaoahpaa

namespace Go.Proofs.Ytfngaildaoahpaa
open Go Go.Am
theorem SWp_of {P : Program} {tr : List Nat} {n m : Nat} {a : Code} {Q : APost} {s : ASt} (hmx : P.follows .mixedOrders = true) (hg : good tr n a = true) (h : awp P tr n m a Q s) : SWp P n m a Q s := awp_sound hmx a Q s hg h
end Go.Proofs.Ytfngaildaoahpaa

namespace Go.Proofs.Ytfngaildaoahpaa
open Go Go.Am
end Go.Proofs.Ytfngaildaoahpaa

namespace Go.Proofs.Ytfngaildaoahpaa
open Go Go.Am
end Go.Proofs.Ytfngaildaoahpaa

namespace Go.Proofs.Ytfngaildaoahpaa
open Go Go.Am
end Go.Proofs.Ytfngaildaoahpaa

namespace Go.Proofs.Ytfngaildaoahpaa
open Go Go.Am
end Go.Proofs.Ytfngaildaoahpaa
