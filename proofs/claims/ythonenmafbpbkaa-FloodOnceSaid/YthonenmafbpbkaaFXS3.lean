import Derived.Test.YthonenmafbpbkaaFXE14
import Derived.Test.YthonenmafbpbkaaFXE2
set_option linter.unusedSimpArgs false
set_option linter.unusedVariables false
namespace Go.Proofs.Ythonenmafbpbkaa
open Go Go.Am
end Go.Proofs.Ythonenmafbpbkaa

namespace Go.Proofs.Ythonenmafbpbkaa
open Go Go.Am
end Go.Proofs.Ythonenmafbpbkaa

namespace Go.Proofs.Ythonenmafbpbkaa
open Go Go.Am
end Go.Proofs.Ythonenmafbpbkaa

/- The exchange of databases: what its functions answer. -/
namespace Go.Proofs.Ythonenmafbpbkaa
open Go Go.Am
structure Nbr where
  Router : Int
  Addr : Int
  Pri : Int
  DR : Int
  BDR : Int
  State : Int
  Til : Int
  Master : Bool
  Seq : Int
  Lst : List Hdr
  Sent : List Hdr
  More : Bool
  Req : List Hdr
  Una : List Hdr
  Rsd : Int
  deriving DecidableEq
@[simp] def cellsNx (n : Nbr) (x : AVal) : List AVal := [.int .u32 n.Router, .int .u32 n.Addr, .int .i64 n.Pri, .int .u32 n.DR, .int .u32 n.BDR, .int .i64 n.State, .int .i64 n.Til, .bool n.Master, .int .i64 n.Seq,
  .sl 7 (n.Lst.map encH) .sh, .sl 7 (n.Sent.map encH) .sh, .bool n.More, x, .sl 7 (n.Una.map encH) .sh, .int .i64 n.Rsd]
@[simp] def cellsN (n : Nbr) : List AVal := cellsNx n (.sl 7 (n.Req.map encH) .sh)
@[simp] def encN (n : Nbr) : AVal := .agg (cellsN n)
def waitsN (n : Nbr) : Bool := decide (n.State = 3) || (decide (n.State = 4) && n.Master) || decide (n.State = 5)
end Go.Proofs.Ythonenmafbpbkaa

namespace Go.Proofs.Ythonenmafbpbkaa
open Go Go.Am
set_option maxHeartbeats 8000000 in
set_option maxRecDepth 10000 in
theorem x12 (n : Nbr) (s1 : n.Lst.length < 8796093022208) (s2 : n.Sent.length < 8796093022208) (s3 : n.Req.length < 8796093022208) (s4 : n.Una.length < 8796093022208) : CFun Try.prog 15 [encN n, encN n] [] (.bool true) [] := by
 refine CFun.intro (tr := []) (fz := []) (n := 106) (rs := [.tmp 4]) Try.func15 rfl (by kernel_rfl) rfl rfl mixed (by kernel_rfl) (by simp) (by simp) ?_
 have h1 := fun H => (f42 n.Lst n.Lst _ _ rfl rfl s1).up' H rfl rfl
 have h2 := fun H => (f42 n.Sent n.Sent _ _ rfl rfl s2).up' H rfl rfl
 have h3 := fun H => (f42 n.Req n.Req _ _ rfl rfl s3).up' H rfl rfl
 have h4 := fun H => (f42 n.Una n.Una _ _ rfl rfl s4).up' H rfl rfl
 simp only [decide_true] at h1 h2 h3 h4
 simp
 refine ⟨_, _, .inl (h1 _), by simp, ?_⟩
 simp
 refine ⟨_, _, .inl (h2 _), by simp, ?_⟩
 simp
 refine ⟨_, _, .inl (h3 _), by simp, ?_⟩
 simp
 refine ⟨_, _, .inl (h4 _), by simp, ?_⟩
 simp
end Go.Proofs.Ythonenmafbpbkaa

namespace Go.Proofs.Ythonenmafbpbkaa
open Go Go.Am
def tyK : Bool × List CTy := (false, [.int .u32])
theorem rd_k {x : AVal} (h : RdA tyK x) : ∃ n : Int, x = .int .u32 n ∧ inW n := by
 obtain ⟨cs, h1, h⟩ := h
 obtain ⟨a1, r, rfl, h, w1⟩ := Rds_int h
 obtain rfl := Rds_nil h
 simp [tyK] at h1
 exact ⟨a1, h1.symm, wf_u32 w1⟩
end Go.Proofs.Ythonenmafbpbkaa

/- What a neighbor brings as an argument; the law ExchangeStarts. -/
namespace Go.Proofs.Ythonenmafbpbkaa
open Go Go.Am
def csN : List CTy := [.int .u32, .int .u32, .int .i64, .int .u32, .int .u32, .int .i64, .int .i64, .bool, .int .i64, .sl true 56 csH, .sl true 56 csH, .bool, .sl true 56 csH, .sl true 56 csH, .int .i64]
def tyN : Bool × List CTy := (true, csN)
theorem rds_h {ts : List CTy} {cs : List AVal} (h : Rds (.sl true 56 csH :: ts) cs) : ∃ (l : List Hdr) (r : List AVal), cs = .sl 7 (l.map encH) .sh :: r ∧ Rds ts r ∧ l.length * 56 ≤ 140737488351232 ∧ ∀ x ∈ l, okH x := by
 obtain ⟨l, r, e, h2, z⟩ := Rds_sl (enc := fun x : { x : Hdr // okH x } => encH x.1) h (fun y cs e h => by
   obtain ⟨a, ha, ok⟩ := rd_H (x := y) ⟨cs, e, h⟩
   exact ⟨⟨a, ok⟩, ha⟩)
 refine ⟨l.map (·.1), r, by rw [e]; simp [Function.comp_def, csH], h2, by simpa [reachBytes] using z, fun x hx => ?_⟩
 obtain ⟨y, _, rfl⟩ := List.mem_map.1 hx
 exact y.2
structure okN (n : Nbr) : Prop where
  router : inW n.Router
  seq : inI n.Seq
  lst : n.Lst.length * 56 ≤ 140737488351232
  sent : n.Sent.length * 56 ≤ 140737488351232
  req : n.Req.length * 56 ≤ 140737488351232
  una : n.Una.length * 56 ≤ 140737488351232
  hlst : ∀ h ∈ n.Lst, okH h
  hsent : ∀ h ∈ n.Sent, okH h
  hreq : ∀ h ∈ n.Req, okH h
  huna : ∀ h ∈ n.Una, okH h
theorem rd_N {x : AVal} (h : RdA tyN x) : ∃ n : Nbr, x = encN n ∧ okN n := by
 obtain ⟨cs, h1, h⟩ := h
 obtain ⟨a1, r, rfl, h, w1⟩ := Rds_int h
 obtain ⟨a2, r, rfl, h, _⟩ := Rds_int h
 obtain ⟨a3, r, rfl, h, _⟩ := Rds_int h
 obtain ⟨a4, r, rfl, h, _⟩ := Rds_int h
 obtain ⟨a5, r, rfl, h, _⟩ := Rds_int h
 obtain ⟨a6, r, rfl, h, _⟩ := Rds_int h
 obtain ⟨a7, r, rfl, h, _⟩ := Rds_int h
 obtain ⟨a8, r, rfl, k1⟩ := Rds_bool h
 obtain ⟨a9, r, rfl, h, w2⟩ := Rds_int k1
 obtain ⟨b1, r, rfl, h, z1, y1⟩ := rds_h h
 obtain ⟨b2, r, rfl, h, z2, y2⟩ := rds_h h
 obtain ⟨b3, r, rfl, k2⟩ := Rds_bool h
 obtain ⟨b4, r, rfl, h, z3, y3⟩ := rds_h k2
 obtain ⟨b5, r, rfl, h, z4, y4⟩ := rds_h h
 obtain ⟨b6, r, rfl, h, _⟩ := Rds_int h
 obtain rfl := Rds_nil h
 exact ⟨⟨a1, a2, a3, a4, a5, a6, a7, a8, a9, b1, b2, b3, b4, b5, b6⟩, by rw [if_pos (show tyN.1 = true from rfl)] at h1; exact h1, wf_u32 w1, wf_i64 w2, z1, z2, z3, z4, y1, y2, y3, y4⟩
end Go.Proofs.Ythonenmafbpbkaa
