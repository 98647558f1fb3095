import Derived.Test.YthonenmafbpbkaaFXE14
import Derived.Test.YthonenmafbpbkaaFXE2
set_option linter.unusedSimpArgs false
set_option linter.unusedVariables false
namespace Go.Proofs.Ythonenmafbpbkaa
open Go Go.Am
end Go.Proofs.Ythonenmafbpbkaa

namespace Go.Proofs.Ythonenmafbpbkaa
open Go Go.Am
end Go.Proofs.Ythonenmafbpbkaa

namespace Go.Proofs.Ythonenmafbpbkaa
open Go Go.Am
end Go.Proofs.Ythonenmafbpbkaa

/- The exchange of databases: what its functions answer. -/
namespace Go.Proofs.Ythonenmafbpbkaa
open Go Go.Am
structure Nbr where
  Router : Int
  Addr : Int
  Pri : Int
  DR : Int
  BDR : Int
  State : Int
  Til : Int
  Master : Bool
  Seq : Int
  Lst : List Hdr
  Sent : List Hdr
  More : Bool
  Req : List Hdr
  Una : List Hdr
  Rsd : Int
  deriving DecidableEq
@[simp] def cellsNx (n : Nbr) (x : AVal) : List AVal := [.int .u32 n.Router, .int .u32 n.Addr, .int .i64 n.Pri, .int .u32 n.DR, .int .u32 n.BDR, .int .i64 n.State, .int .i64 n.Til, .bool n.Master, .int .i64 n.Seq,
  .sl 7 (n.Lst.map encH) .sh, .sl 7 (n.Sent.map encH) .sh, .bool n.More, x, .sl 7 (n.Una.map encH) .sh, .int .i64 n.Rsd]
@[simp] def cellsN (n : Nbr) : List AVal := cellsNx n (.sl 7 (n.Req.map encH) .sh)
@[simp] def encN (n : Nbr) : AVal := .agg (cellsN n)
def waitsN (n : Nbr) : Bool := decide (n.State = 3) || (decide (n.State = 4) && n.Master) || decide (n.State = 5)
end Go.Proofs.Ythonenmafbpbkaa

namespace Go.Proofs.Ythonenmafbpbkaa
open Go Go.Am
set_option maxHeartbeats 8000000 in
set_option maxRecDepth 10000 in
theorem x12 (n : Nbr) (s1 : n.Lst.length < 8796093022208) (s2 : n.Sent.length < 8796093022208) (s3 : n.Req.length < 8796093022208) (s4 : n.Una.length < 8796093022208) : CFun Try.prog 15 [encN n, encN n] [] (.bool true) [] := by
 refine CFun.intro (tr := []) (fz := []) (n := 106) (rs := [.tmp 4]) Try.func15 rfl (by kernel_rfl) rfl rfl mixed (by kernel_rfl) (by simp) (by simp) ?_
 have h1 := fun H => (f42 n.Lst n.Lst _ _ rfl rfl s1).up' H rfl rfl
 have h2 := fun H => (f42 n.Sent n.Sent _ _ rfl rfl s2).up' H rfl rfl
 have h3 := fun H => (f42 n.Req n.Req _ _ rfl rfl s3).up' H rfl rfl
 have h4 := fun H => (f42 n.Una n.Una _ _ rfl rfl s4).up' H rfl rfl
 simp only [decide_true] at h1 h2 h3 h4
 simp
 refine ⟨_, _, .inl (h1 _), by simp, ?_⟩
 simp
 refine ⟨_, _, .inl (h2 _), by simp, ?_⟩
 simp
 refine ⟨_, _, .inl (h3 _), by simp, ?_⟩
 simp
 refine ⟨_, _, .inl (h4 _), by simp, ?_⟩
 simp
end Go.Proofs.Ythonenmafbpbkaa

namespace Go.Proofs.Ythonenmafbpbkaa
open Go Go.Am
end Go.Proofs.Ythonenmafbpbkaa

/- What a neighbor brings as an argument; the law ExchangeStarts. -/
namespace Go.Proofs.Ythonenmafbpbkaa
open Go Go.Am
structure okN (n : Nbr) : Prop where
  router : inW n.Router
  seq : inI n.Seq
  lst : n.Lst.length * 56 ≤ 140737488351232
  sent : n.Sent.length * 56 ≤ 140737488351232
  req : n.Req.length * 56 ≤ 140737488351232
  una : n.Una.length * 56 ≤ 140737488351232
  hlst : ∀ h ∈ n.Lst, okH h
  hsent : ∀ h ∈ n.Sent, okH h
  hreq : ∀ h ∈ n.Req, okH h
  huna : ∀ h ∈ n.Una, okH h
end Go.Proofs.Ythonenmafbpbkaa
