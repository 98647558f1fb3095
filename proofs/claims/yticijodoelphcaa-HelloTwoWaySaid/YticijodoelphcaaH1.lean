import Derived.Test.YticijodoelphcaaHB
set_option linter.unusedSimpArgs false
set_option linter.unusedVariables false
namespace Go.Proofs.Yticijodoelphcaa
open Go Go.Am

/-! Records of layer 26. -/
structure Nbr where
  Router : Int
  Addr : Int
  Pri : Int
  DR : Int
  BDR : Int
  State : Int
  Til : Int
  Master : Bool
  Seq : Int
  Lst : List Hdr
  Sent : List Hdr
  More : Bool
  Req : List Hdr
  Una : List Hdr
  Rsd : Int
  deriving DecidableEq
@[simp] def cellsN (n : Nbr) : List AVal := [.int .u32 n.Router, .int .u32 n.Addr, .int .i64 n.Pri, .int .u32 n.DR, .int .u32 n.BDR, .int .i64 n.State, .int .i64 n.Til, .bool n.Master, .int .i64 n.Seq,
  .sl 7 (n.Lst.map encH) .sh, .sl 7 (n.Sent.map encH) .sh, .bool n.More, .sl 7 (n.Req.map encH) .sh, .sl 7 (n.Una.map encH) .sh, .int .i64 n.Rsd]
@[simp] def encN (n : Nbr) : AVal := .agg (cellsN n)
structure Ifc where
  Kind : Int
  PA : Int
  PL : Int
  Addr : Int
  Area : Int
  Cost : Int
  Pri : Int
  Hello : Int
  Dead : Int
  deriving DecidableEq
@[simp] def cellsI (c : Ifc) : List AVal := [.int .i64 c.Kind, .int .u32 c.PA, .int .i64 c.PL, .int .u32 c.Addr, .int .u32 c.Area, .int .i64 c.Cost, .int .i64 c.Pri, .int .i64 c.Hello, .int .i64 c.Dead]
@[simp] def encI' (c : Ifc) : AVal := .agg (cellsI c)
structure Ifs where
  C : Ifc
  Up : Bool
  DR : Int
  BDR : Int
  Elect : Int
  Next : Int
  N : List Nbr
  deriving DecidableEq
/-- The cells of a state, its neighbors as x. -/
@[simp] def cellsSx (s : Ifs) (x : AVal) : List AVal := [.int .i64 s.C.Kind, .int .u32 s.C.PA, .int .i64 s.C.PL, .int .u32 s.C.Addr, .int .u32 s.C.Area, .int .i64 s.C.Cost, .int .i64 s.C.Pri, .int .i64 s.C.Hello, .int .i64 s.C.Dead,
  .bool s.Up, .int .u32 s.DR, .int .u32 s.BDR, .int .i64 s.Elect, .int .i64 s.Next, x]
@[simp] def cellsS (s : Ifs) : List AVal := cellsSx s (.sl 15 (s.N.map encN) .sh)
@[simp] def encS (s : Ifs) : AVal := .agg (cellsS s)
structure Hel where
  Len : Int
  Hello : Int
  Dead : Int
  Pri : Int
  DR : Int
  BDR : Int
  Seen : List Int
  deriving DecidableEq
@[simp] def cellsE (h : Hel) : List AVal := [.int .i64 h.Len, .int .i64 h.Hello, .int .i64 h.Dead, .int .i64 h.Pri, .int .u32 h.DR, .int .u32 h.BDR, .sl 1 (h.Seen.map enc32) .sh]
@[simp] def encE (h : Hel) : AVal := .agg (cellsE h)
structure Pkt where
  Kind : Int
  Router : Int
  Area : Int
  Addr : Int
  E : Hel
  Seq : Int
  Init : Bool
  More : Bool
  Master : Bool
  Heads : List Hdr
  Keys : List LKey
  Lsas : List Lsa
  deriving DecidableEq
@[simp] def cellsP (p : Pkt) : List AVal := [.int .i64 p.Kind, .int .u32 p.Router, .int .u32 p.Area, .int .u32 p.Addr,
  .int .i64 p.E.Len, .int .i64 p.E.Hello, .int .i64 p.E.Dead, .int .i64 p.E.Pri, .int .u32 p.E.DR, .int .u32 p.E.BDR, .sl 1 (p.E.Seen.map enc32) .sh,
  .int .i64 p.Seq, .bool p.Init, .bool p.More, .bool p.Master, .sl 7 (p.Heads.map encH) .sh, .sl 4 (p.Keys.map encY) .sh, .sl 15 (p.Lsas.map encA) .sh]
@[simp] def encP (p : Pkt) : AVal := .agg (cellsP p)

def nbr0 : Nbr := ⟨0, 0, 0, 0, 0, 0, 0, false, 0, [], [], false, [], [], 0⟩
def ifc0 : Ifc := ⟨0, 0, 0, 0, 0, 0, 0, 0, 0⟩
def ifs0 : Ifs := ⟨ifc0, false, 0, 0, 0, 0, []⟩
def hel0 : Hel := ⟨0, 0, 0, 0, 0, 0, []⟩
def pkt0 : Pkt := ⟨0, 0, 0, 0, hel0, 0, false, false, false, [], [], []⟩

/-! What the functions answer. -/
def inP (a n x : Int) : Bool := validP a n && decide (keepI x n = a)
def chkI (c : Ifc) : Int :=
  if inR c.Kind 1 3 = false then 15 else if c.Addr = 0 ∨ inP c.PA c.PL c.Addr = false then 1
  else if inR c.Cost 1 65535 = false ∨ inR c.Pri 0 255 = false ∨ inR c.Hello 1 65535 = false ∨ inR c.Dead c.Hello 65535 = false then 5 else 0
def helOf (s : Ifs) : Hel := ⟨s.C.PL, s.C.Hello, s.C.Dead, s.C.Pri, s.DR, s.BDR, (s.N.filter fun n => decide (1 ≤ n.State)).map Nbr.Router⟩
def makeI (s : Ifs) (r : Int) : Pkt := { pkt0 with Kind := 1, Router := r, Area := s.C.Area, Addr := s.C.Addr, E := helOf s }
def isN (r : Int) (n : Nbr) : Bool := decide (n.Router = r)
def findI (l : List Nbr) (r : Int) : Nbr × Bool := match l.find? (isN r) with
  | some n => (n, true)
  | none => (nbr0, false)
def gtN (r : Int) (n : Nbr) : Bool := decide (r < n.Router)
/-- The first of a router replaced, or put in ahead of the first greater. -/
def withL (l : List Nbr) (n : Nbr) : List Nbr :=
  if l.any (isN n.Router) = true then l.set (posF (isN n.Router) l) n else insL l (posF (gtN n.Router) l) n
def withI (s : Ifs) (n : Nbr) : Ifs := { s with N := withL s.N n }
def lateN (now : Int) (n : Nbr) : Bool := decide (n.Til ≤ now)
def expI (s : Ifs) (now : Int) : Ifs := { s with N := s.N.filter fun n => !lateN now n }
def chosen (r q x : Int) : Bool := decide (x ≠ 0) && (decide (x = r) || decide (x = q))
def wantsI (s : Ifs) (r : Int) (n : Nbr) : Bool := s.Up && decide (2 ≤ n.State) && (decide (s.C.Kind = 1) || decide (s.C.Kind = 2) && (chosen r n.Router s.DR || chosen r n.Router s.BDR))
def diffI (c : Ifc) (p : Pkt) : Bool := !(decide (p.Area = c.Area) && decide (p.E.Len = c.PL) && decide (p.E.Hello = c.Hello) && decide (p.E.Dead = c.Dead) && inP c.PA c.PL p.Addr)
def refI (s : Ifs) (r : Int) (p : Pkt) : Int :=
  if s.Up = false ∨ s.C.Kind = 3 then 9 else if p.Kind ≠ 1 then 15 else if diffI s.C p = true then 14
  else if p.Router = 0 ∨ p.Router = r ∨ p.Addr = s.C.Addr then 1 else if s.C.Kind = 1 ∧ (s.N.any fun n => !isN p.Router n) = true then 7
  else if s.N.any (isN p.Router) = false ∧ 63 ≤ s.N.length then 8 else 0
def plainN (n : Nbr) : Nbr := { nbr0 with Router := n.Router, Addr := n.Addr, Pri := n.Pri, DR := n.DR, BDR := n.BDR, State := n.State, Til := n.Til }
/-- The neighbor after its hello. -/
def heard (s : Ifs) (r : Int) (p : Pkt) (now : Int) : Nbr :=
  let n := (if s.N.any (isN p.Router) = true then (findI s.N p.Router).1 else { nbr0 with Router := p.Router, State := 1 })
  let m := { n with Addr := p.Addr, Pri := p.E.Pri, DR := p.E.DR, BDR := p.E.BDR, Til := now + s.C.Dead }
  if memL p.E.Seen r = true then (if m.State = 1 then { m with State := 2 } else m) else { plainN m with State := 1 }
def recvI (s : Ifs) (r : Int) (p : Pkt) (now : Int) : Ifs × Int := if refI s r p ≠ 0 then (ifs0, refI s r p) else (withI s (heard s r p now), 0)
def ascN (l : List Nbr) : Prop := l.Pairwise fun a b => a.Router < b.Router
def goodI (s : Ifs) : Prop := chkI s.C = 0 ∧ ascN s.N

/-! How they lie in rows. -/
def ceN (n : Nbr) : List AVal := cellsN n
theorem eN : Enc ceN 15 where
  pos := by omega
  len x := rfl
  dis x := rfl
  tree x := by simp [AVal.tree, ceN]
end Go.Proofs.Yticijodoelphcaa
