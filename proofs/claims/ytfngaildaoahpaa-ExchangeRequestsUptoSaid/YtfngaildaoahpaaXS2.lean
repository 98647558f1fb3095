import Derived.Test.YtfngaildaoahpaaXK5
import Derived.Test.YtfngaildaoahpaaXDS6
import Derived.Test.YtfngaildaoahpaaXE13
set_option linter.unusedSimpArgs false
set_option linter.unusedVariables false
namespace Go.Proofs.Ytfngaildaoahpaa
open Go Go.Am
end Go.Proofs.Ytfngaildaoahpaa

namespace Go.Proofs.Ytfngaildaoahpaa
open Go Go.Am
end Go.Proofs.Ytfngaildaoahpaa

namespace Go.Proofs.Ytfngaildaoahpaa
open Go Go.Am
def sameL (a b : Lsa) : Bool := decide (a.H = b.H) && sameB a b
def sameP (a b : Pkt) : Bool :=
 decide (a.Kind = b.Kind) && (decide (a.Router = b.Router) && (decide (a.Area = b.Area) && (decide (a.Addr = b.Addr) && (decide (a.E = b.E) && (decide (a.Seq = b.Seq) && (decide (a.Init = b.Init) && (decide (a.More = b.More) && (decide (a.Master = b.Master) &&
   (decide (a.Heads = b.Heads) && (decide (a.Keys = b.Keys) && eqW sameL a.Lsas b.Lsas))))))))))
structure okS (p : Pkt) : Prop where
  seen : p.E.Seen.length < 140737488355328
  keys : p.Keys.length < 8796093022208
  lsas : p.Lsas.length < 1099511627776
  heads : p.Heads.length < 8796093022208
  oka : ∀ x ∈ p.Lsas, okA x
end Go.Proofs.Ytfngaildaoahpaa

namespace Go.Proofs.Ytfngaildaoahpaa
open Go Go.Am
end Go.Proofs.Ytfngaildaoahpaa

/- The exchange of databases: what its functions answer. -/
namespace Go.Proofs.Ytfngaildaoahpaa
open Go Go.Am
structure Nbr where
  Router : Int
  Addr : Int
  Pri : Int
  DR : Int
  BDR : Int
  State : Int
  Til : Int
  Master : Bool
  Seq : Int
  Lst : List Hdr
  Sent : List Hdr
  More : Bool
  Req : List Hdr
  Una : List Hdr
  Rsd : Int
  deriving DecidableEq
@[simp] def cellsNx (n : Nbr) (x : AVal) : List AVal := [.int .u32 n.Router, .int .u32 n.Addr, .int .i64 n.Pri, .int .u32 n.DR, .int .u32 n.BDR, .int .i64 n.State, .int .i64 n.Til, .bool n.Master, .int .i64 n.Seq,
  .sl 7 (n.Lst.map encH) .sh, .sl 7 (n.Sent.map encH) .sh, .bool n.More, x, .sl 7 (n.Una.map encH) .sh, .int .i64 n.Rsd]
@[simp] def cellsN (n : Nbr) : List AVal := cellsNx n (.sl 7 (n.Req.map encH) .sh)
@[simp] def encN (n : Nbr) : AVal := .agg (cellsN n)
def nbr0 : Nbr := ⟨0, 0, 0, 0, 0, 0, 0, false, 0, [], [], false, [], [], 0⟩
def plainN (n : Nbr) : Nbr := { nbr0 with Router := n.Router, Addr := n.Addr, Pri := n.Pri, DR := n.DR, BDR := n.BDR, State := n.State, Til := n.Til }
def waitsN (n : Nbr) : Bool := decide (n.State = 3) || (decide (n.State = 4) && n.Master) || decide (n.State = 5)
def settleN (n : Nbr) (now : Int) : Nbr := if waitsN n = true then { n with Rsd := now + 5 } else if n.Una = [] then { n with Rsd := 0 } else n
def pendN (n : Nbr) (self : Int) : Pkt :=
 if n.State = 3 then { pkt0 with Kind := 2, Router := self, Seq := n.Seq, Init := true, More := true, Master := true }
 else { pkt0 with Kind := 2, Router := self, Seq := n.Seq, Heads := n.Sent, More := decide (0 < n.Lst.length), Master := n.Master }
def reqN (n : Nbr) (self : Int) : Pkt := { pkt0 with Kind := 3, Router := self, Keys := (n.Req.take 16).map keyH }
def startN (n : Nbr) (now : Int) : Nbr := { plainN n with State := 3, Master := true, Seq := (if 0 < now then now else 0) % 1073741824, Rsd := now + 5 }
def batchN (n : Nbr) : Nbr := { n with Sent := n.Lst.take 16, Lst := n.Lst.drop 16 }
end Go.Proofs.Ytfngaildaoahpaa

/- The start of an exchange. -/
namespace Go.Proofs.Ytfngaildaoahpaa
open Go Go.Am
def firstN (n : Nbr) (self : Int) : Pkt := { pkt0 with Kind := 2, Router := self, Seq := n.Seq, Init := true, More := true, Master := true }
set_option maxHeartbeats 2000000 in
set_option maxRecDepth 10000 in
theorem x35s (r a p d bd til seq rsd self : Int) : CFun Try.prog 35 [.agg [.int .u32 r, .int .u32 a, .int .i64 p, .int .u32 d, .int .u32 bd, .int .i64 3, .int .i64 til, .bool true, .int .i64 seq, .sl 0 [] .full, .sl 0 [] .full, .bool false, .sl 0 [] .full, .sl 0 [] .full, .int .i64 rsd], .int .u32 self] []
   (encPk { pkt0 with Kind := 2, Router := self, Seq := seq, Init := true, More := true, Master := true }) [] := by
 refine CFun.intro (tr := [900001000017, 900002000017, 3500017]) (fz := []) (n := 30) (rs := [.cell 4 34]) Try.func35 rfl (by kernel_rfl) rfl rfl mixed (by kernel_rfl) (by simp) (by simp) ?_
 simp [pkt0, hel0]
theorem startN_seq (now : Int) : (if now < 0 then 0 else now).tmod 1073741824 = (if 0 < now then now else 0) % 1073741824 := by
 rw [Int.tmod_eq_emod_of_nonneg (by split <;> omega)]
 congr 1
 split <;> split <;> omega
set_option maxHeartbeats 4000000 in
set_option maxRecDepth 10000 in
theorem x10 (n : Nbr) (self now : Int) (hw : inI (now + 5)) : CFun Try.prog 10 [encN n, .int .u32 self, .int .i64 now] [] (.tup [encN (startN n now), encPk (firstN (startN n now) self)]) [] := by
 refine CFun.intro (tr := []) (fz := []) (n := 34) (rs := [.cell 6 26, .cell 7 34]) Try.func10 rfl (by kernel_rfl) rfl rfl mixed (by kernel_rfl) (by simp) (by simp) ?_
 have w1 : IntKind.i64.wrap (now + 5) = now + 5 := wrap_in hw
 have e2 := startN_seq now
 have h1 := fun r a p d bd til seq rsd H => (x35s r a p d bd til seq rsd self).up' H rfl rfl
 simp [w1, e2]
 refine ⟨_, _, .inl (by simpa using h1 _ _ _ _ _ _ _ _ _), by simp, ?_⟩
 simp [startN, plainN, nbr0, firstN, pkt0, hel0]
end Go.Proofs.Ytfngaildaoahpaa

namespace Go.Proofs.Ytfngaildaoahpaa
open Go Go.Am
end Go.Proofs.Ytfngaildaoahpaa
