import Derived.Test.YtapgoboiljjecaaGreatDoorQDS9
import Derived.Test.YtapgoboiljjecaaGreatDoorAmU
import Derived.JoinedOf
import Derived.Test.YtapgoboiljjecaaGreatDoorRows
set_option linter.unusedSimpArgs false
set_option linter.unusedVariables false
namespace Go.Proofs.YtapgoboiljjecaaGreatDoor
open Go Go.Am
def smp:Lsa:=⟨⟨3,167772160,8,1,4,0,0⟩,false,false,[],[],7,false,0,0⟩
def smpS:Lsa:=⟨⟨3,167772160,8,1,4,0,sumA smp⟩,false,false,[],[],7,false,0,0⟩
def h1:Hdr:=⟨1,1,0,1,4,100,0⟩
def h2:Hdr:=⟨1,1,0,1,3,100,0⟩
def h3:Hdr:=⟨1,1,0,1,4,1100,0⟩
def h4:Hdr:=⟨1,1,0,1,4,1000,0⟩
theorem v1:sealL smp = (smpS,0):=by decide +kernel
theorem v2:(encL smpS).2 = 0 ∧ (encL smpS).1.length = 24:=by decide +kernel
end Go.Proofs.YtapgoboiljjecaaGreatDoor

namespace Go.Proofs.YtapgoboiljjecaaGreatDoor
open Go Go.Am
def inI (x:Int):Prop:=-9223372036854775808 ≤ x ∧ x ≤ 9223372036854775807
theorem wrap_u64 (x:Int):IntKind.u64.wrap x = x % 18446744073709551616:=rfl
end Go.Proofs.YtapgoboiljjecaaGreatDoor

namespace Go.Proofs.YtapgoboiljjecaaGreatDoor
open Go Go.Am
def inW (x:Int):Prop:=0 ≤ x ∧ x ≤ 4294967295
def okH (h:Hdr):Prop:=inI h.Ty ∧ inW h.ID ∧ inI h.Len ∧ inW h.Router ∧ inI h.Seq ∧ inI h.Age ∧ inI h.Sum
theorem own:ownKnob Tryz.prog.godebug = none:=by kernel_rfl
end Go.Proofs.YtapgoboiljjecaaGreatDoor

namespace Go.Proofs.YtapgoboiljjecaaGreatDoor
open Go Go.Am
structure LKey where
  Ty:Int
  ID:Int
  Len:Int
  Router:Int
  deriving DecidableEq
@[simp] def cellsY (k:LKey):List AVal:=[.int .i64 k.Ty,.int .u32 k.ID,.int .i64 k.Len,.int .u32 k.Router]
@[simp] def encY (k:LKey):AVal:=.agg (cellsY k)
def keyH (h:Hdr):LKey:=⟨h.Ty,h.ID,h.Len,h.Router⟩
set_option maxRecDepth 10000 in
theorem c25 (h:Hdr):CFun Tryz.prog 70 [encH h] [] (encY (keyH h)) []:=by
 refine CFun.intro (tr:=[]) (fz:=[]) (n:=12) (rs:=[.cell 2 126]) Tryz.func70 rfl (by kernel_rfl) rfl rfl mixed (by kernel_rfl) (by simp) (by simp) ?_
 simp [keyH]
def cmpY (a b:LKey):Int:=orL [cmpI a.Ty b.Ty,cmpI a.ID b.ID,cmpI a.Len b.Len,cmpI a.Router b.Router]
set_option maxHeartbeats 2000000 in
set_option maxRecDepth 10000 in
theorem c27 (a b:LKey):CFun Tryz.prog 106 [encY a,encY b] [] (.int .i64 (cmpY a b)) []:=by
 refine CFun.intro (tr:=[]) (fz:=[]) (n:=27) (rs:=[.tmp 4]) Tryz.func106 rfl (by kernel_rfl) rfl rfl mixed (by kernel_rfl) (by simp) (by simp) ?_
 have h50:=fun H=>((c50 [cmpI a.Ty b.Ty,cmpI a.ID b.ID,cmpI a.Len b.Len,cmpI a.Router b.Router] 4 rfl (by omega)).wk [.sl 1 ([cmpI a.Ty b.Ty,cmpI a.ID b.ID,cmpI a.Len b.Len,cmpI a.Router b.Router].map encI) .full] (by simp) ⟨whole,trivial⟩).up' H rfl rfl
 have h51:∀ x y H,CFun Tryz.prog 128 [.int .i64 x,.int .i64 y] H (.int .i64 (cmpI x y)) H:=fun x y H=>(c51 x y).up' H rfl rfl
 have h62:∀ x y H,CFun Tryz.prog 129 [.int .u32 x,.int .u32 y] H (.int .i64 (cmpI x y)) H:=fun x y H=>(c62 x y).up' H rfl rfl
 simp only [List.map_cons,List.map_nil,encI] at h50
 simp
 refine ⟨_,_,.inl (h51 _ _ _),by simp,?_⟩
 simp
 refine ⟨_,_,.inl (h62 _ _ _),by simp,?_⟩
 simp
 refine ⟨_,_,.inl (h51 _ _ _),by simp,?_⟩
 simp
 refine ⟨_,_,.inl (h62 _ _ _),by simp,?_⟩
 simp
 refine ⟨_,_,.inl (h50 _),by simp,?_⟩
 simp [cmpY]
end Go.Proofs.YtapgoboiljjecaaGreatDoor

namespace Go.Proofs.YtapgoboiljjecaaGreatDoor
open Go Go.Am
end Go.Proofs.YtapgoboiljjecaaGreatDoor

namespace Go.Proofs.YtapgoboiljjecaaGreatDoor
open Go Go.Am
theorem inR_iff (n lo hi:Int):inR n lo hi = true ↔ lo ≤ n ∧ n ≤ hi:=by simp [inR]
end Go.Proofs.YtapgoboiljjecaaGreatDoor

namespace Go.Proofs.YtapgoboiljjecaaGreatDoor
open Go Go.Am
def okK (x:Lnk):Prop:=inW x.ID ∧ inW x.Data
end Go.Proofs.YtapgoboiljjecaaGreatDoor

namespace Go.Proofs.YtapgoboiljjecaaGreatDoor
open Go Go.Am
def okA (l:Lsa):Prop:=okH l.H ∧ (∀ x ∈ l.Links,okK x) ∧ (∀ x ∈ l.Att,inW x) ∧ inI l.Cost ∧ inW l.Fwd ∧ inI l.Tag ∧ l.Links.length < 8796093022208 ∧ l.Att.length < 140737488355328
end Go.Proofs.YtapgoboiljjecaaGreatDoor

namespace Go.Proofs.YtapgoboiljjecaaGreatDoor
open Go Go.Am
end Go.Proofs.YtapgoboiljjecaaGreatDoor
