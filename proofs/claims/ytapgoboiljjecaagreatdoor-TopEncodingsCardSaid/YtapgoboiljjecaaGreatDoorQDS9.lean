import Derived.Test.YtapgoboiljjecaaGreatDoorQDSFacts
import Derived.Test.YtapgoboiljjecaaGreatDoorAmV
set_option linter.unusedSimpArgs false
set_option linter.unusedVariables false
namespace Go.Proofs.YtapgoboiljjecaaGreatDoor
open Go Go.Am
def inR (n lo hi:Int):Bool:=decide (lo ≤ n) && decide (n ≤ hi)
theorem c44 (n lo hi:Int):CFun Tryz.prog 25 [.int .i64 n,.int .i64 lo,.int .i64 hi] [] (.bool (inR n lo hi)) []:=by
 refine CFun.intro (tr:=[]) (fz:=[]) (n:=15) (rs:=[.tmp 6]) Tryz.func25 rfl (by kernel_rfl) rfl rfl mixed (by kernel_rfl) (by simp) (by simp) ?_
 by_cases h:lo ≤ n <;> simp [h,inR]
def hasP (t:Int):Bool:=decide (t = 2) || decide (t = 3) || decide (t = 5)
theorem c66 (t:Int):CFun Tryz.prog 107 [.int .i64 t] [] (.bool (hasP t)) []:=by
 refine CFun.intro (tr:=[]) (fz:=[]) (n:=13) (rs:=[.tmp 2]) Tryz.func107 rfl (by kernel_rfl) rfl rfl mixed (by kernel_rfl) (by simp) (by simp) ?_
 by_cases h:t = 2
 · simp [h,hasP]
 · by_cases h2:t = 3 <;> by_cases h3:t = 5 <;> simp [h,h2,h3,hasP]
def clampI (n m:Int):Int:=if m < (if n < 0 then 0 else n) then m else if n < 0 then 0 else n
theorem c106 (n m:Int):CFun Tryz.prog 137 [.int .i64 n,.int .i64 m] [] (.int .i64 (clampI n m)) []:=by
 refine CFun.intro (tr:=[]) (fz:=[]) (n:=9) (rs:=[.tmp 4]) Tryz.func137 rfl (by kernel_rfl) rfl rfl mixed (by kernel_rfl) (by simp) (by simp) ?_
 simp [clampI]
def maskI (n:Int):Int:=IntKind.u32.wrap (4294967295 * 2 ^ (min (32 - clampI n 32).toNat 32))
theorem clamp_range (n:Int):0 ≤ clampI n 32 ∧ clampI n 32 ≤ 32:=by
 unfold clampI; split <;> split <;> omega
theorem c105 (n:Int):CFun Tryz.prog 134 [.int .i64 n] [] (.int .u32 (maskI n)) []:=by
 refine CFun.intro (tr:=[]) (fz:=[]) (n:=7) (rs:=[.tmp 2]) Tryz.func134 rfl (by kernel_rfl) rfl rfl mixed (by kernel_rfl) (by simp) (by simp) ?_
 simp
 refine ⟨_,_,.inl (c106 n 32),trivial,?_⟩
 have hr:=clamp_range n
 have w:IntKind.i64.wrap (32 - clampI n 32) = 32 - clampI n 32:=wrap_in (by omega)
 have h0:¬ (32 - clampI n 32 < 0):=by omega
 simp [w,h0,maskI,show IntKind.u32.bits = 32 from rfl]
def keepI (x n:Int):Int:=IntKind.u32.wrap ((BitVec.ofInt 32 x &&& BitVec.ofInt 32 (maskI n)).toNat:Int)
theorem c94 (x n:Int):CFun Tryz.prog 126 [.int .u32 x,.int .i64 n] [] (.int .u32 (keepI x n)) []:=by
 refine CFun.intro (tr:=[]) (fz:=[]) (n:=9) (rs:=[.tmp 4]) Tryz.func126 rfl (by kernel_rfl) rfl rfl mixed (by kernel_rfl) (by simp) (by simp) ?_
 simp
 refine ⟨_,_,.inl (c105 n),trivial,?_⟩
 simp [keepI,show IntKind.u32.bits = 32 from rfl]
def validP (a n:Int):Bool:=decide (0 ≤ n) && decide (n ≤ 32) && decide (keepI a n = a)
set_option maxHeartbeats 1000000 in
set_option maxRecDepth 10000 in
theorem c77 (a n:Int):CFun Tryz.prog 104 [.agg [.int .u32 a,.int .i64 n]] [] (.bool (validP a n)) []:=by
 refine CFun.intro (tr:=[]) (fz:=[]) (n:=21) (rs:=[.tmp 2]) Tryz.func104 rfl (by kernel_rfl) rfl rfl mixed (by kernel_rfl) (by simp) (by simp) ?_
 have h94:=(c94 a n).up' [[.int .u32 a,.int .i64 n]] rfl rfl
 by_cases h1:0 ≤ n
 · by_cases h2:n ≤ 32
   · simp [h1,h2]
     refine ⟨_,_,.inl (by simpa using h94),by simp,?_⟩
     by_cases h3:keepI a n = a <;> simp [validP,h1,h2,h3]
   · simp [h1,h2,validP]
 · simp [h1,validP]
def memL (l:List Int) (x:Int):Bool:=decide (x ∈ l)
def idxI (x:Int):List Int → Nat → Int
 | [],_=>-1
 | y :: ys,i=>if x = y then (i:Int) else idxI x ys (i + 1)
theorem idxI_mem (x:Int):∀ (l:List Int) (i:Nat),(0 ≤ idxI x l i ↔ x ∈ l):=by
 intro l
 induction l with
 | nil=>intro i; simp [idxI]
 | cons y ys ih =>
   intro i
   simp only [idxI]
   split
   · rename_i h; subst h; simp
   · rename_i h; rw [ih]; simp [h]
theorem get_drop {α:Type} {l:List α} {i:Nat} (hi:i < l.length):∃ x,l[i]? = some x ∧ l.drop i = x :: l.drop (i + 1) :=
 ⟨l[i],List.getElem?_eq_getElem hi,List.drop_eq_getElem_cons hi⟩
@[simp] def encI (x:Int):AVal:=.int .i64 x
@[simp] def enc32 (x:Int):AVal:=.int .u32 x
@[simp] def enc8 (x:Int):AVal:=.int .u8 x
set_option maxHeartbeats 1000000 in
set_option maxRecDepth 10000 in
theorem c95 (l:List Int) (n:Nat) (hn:(l.length:Int) = n) (hlen:n < 1099511627776) (x:Int):CFun Tryz.prog 130 [.sl 1 (l.map encI) .sh,.int .i64 x] [] (.int .i64 (idxI x l 0)) []:=by
 refine CFun.intro (tr:=[]) (fz:=[]) (n:=19) (rs:=[.tmp 4]) Tryz.func130 rfl (by kernel_rfl) rfl rfl mixed (by kernel_rfl) (by simp) (by simp) ?_
 simp [hn]
 refine LoopK.intro (tr:=[]) mixed (by kernel_rfl) (fun i:Nat=>[(0,.sl 1 (l.map encI) .sh),(1,.int .i64 x),(7,.int .i64 n),(8,.int .i64 i)]) (fun _=>[]) (fun i=>i ≤ n ∧ idxI x l 0 = idxI x (l.drop i) i) (fun i=>n - i) 0 ?_ ?_ ?_
 · simp
 · simp
 · rintro i ⟨h1,h2⟩
   by_cases hi:i < n
   · obtain ⟨y,hy,hd⟩:=get_drop (l:=l) (i:=i) (by omega)
     rw [hd] at h2
     have w1:IntKind.i64.wrap ((i:Int) + 1) = i + 1:=wrap_in (by omega)
     clear hd hn
     by_cases hxy:x = y
     · simp [idxI,hxy] at h2
       simp [hi,hy,hxy,h2]
     · simp [idxI,hxy] at h2
       simp [hi,hy,hxy,w1]
       exact ⟨i + 1,⟨by omega,h2⟩,by omega,by simp⟩
   · have e:l.drop i = []:=List.drop_of_length_le (by omega)
     rw [e] at h2
     simp [idxI] at h2
     simp [hi,h2]
set_option maxHeartbeats 1000000 in
set_option maxRecDepth 10000 in
theorem c96 (l:List Int) (n:Nat) (hn:(l.length:Int) = n) (hlen:n < 1099511627776) (x:Int):CFun Tryz.prog 131 [.sl 1 (l.map enc32) .sh,.int .u32 x] [] (.int .i64 (idxI x l 0)) []:=by
 refine CFun.intro (tr:=[]) (fz:=[]) (n:=19) (rs:=[.tmp 4]) Tryz.func131 rfl (by kernel_rfl) rfl rfl mixed (by kernel_rfl) (by simp) (by simp) ?_
 simp [hn]
 refine LoopK.intro (tr:=[]) mixed (by kernel_rfl) (fun i:Nat=>[(0,.sl 1 (l.map enc32) .sh),(1,.int .u32 x),(7,.int .i64 n),(8,.int .i64 i)]) (fun _=>[]) (fun i=>i ≤ n ∧ idxI x l 0 = idxI x (l.drop i) i) (fun i=>n - i) 0 ?_ ?_ ?_
 · simp
 · simp
 · rintro i ⟨h1,h2⟩
   by_cases hi:i < n
   · obtain ⟨y,hy,hd⟩:=get_drop (l:=l) (i:=i) (by omega)
     rw [hd] at h2
     have w1:IntKind.i64.wrap ((i:Int) + 1) = i + 1:=wrap_in (by omega)
     clear hd hn
     by_cases hxy:x = y
     · simp [idxI,hxy] at h2
       simp [hi,hy,hxy,h2]
     · simp [idxI,hxy] at h2
       simp [hi,hy,hxy,w1]
       exact ⟨i + 1,⟨by omega,h2⟩,by omega,by simp⟩
   · have e:l.drop i = []:=List.drop_of_length_le (by omega)
     rw [e] at h2
     simp [idxI] at h2
     simp [hi,h2]
theorem c79 (l:List Int) (hlen:l.length < 1099511627776) (x:Int):CFun Tryz.prog 109 [.sl 1 (l.map encI) .sh,.int .i64 x] [] (.bool (memL l x)) []:=by
 refine CFun.intro (tr:=[]) (fz:=[]) (n:=9) (rs:=[.tmp 4]) Tryz.func109 rfl (by kernel_rfl) rfl rfl mixed (by kernel_rfl) (by simp) (by simp) ?_
 simp
 refine ⟨_,_,.inl (c95 l _ rfl hlen x),trivial,?_⟩
 simp [memL,idxI_mem]
theorem c82 (l:List Int) (hlen:l.length < 1099511627776) (x:Int):CFun Tryz.prog 112 [.sl 1 (l.map enc32) .sh,.int .u32 x] [] (.bool (memL l x)) []:=by
 refine CFun.intro (tr:=[]) (fz:=[]) (n:=9) (rs:=[.tmp 4]) Tryz.func112 rfl (by kernel_rfl) rfl rfl mixed (by kernel_rfl) (by simp) (by simp) ?_
 simp
 refine ⟨_,_,.inl (c96 l _ rfl hlen x),trivial,?_⟩
 simp [memL,idxI_mem]
end Go.Proofs.YtapgoboiljjecaaGreatDoor

namespace Go.Proofs.YtapgoboiljjecaaGreatDoor
open Go Go.Am
structure Hdr where
  Ty:Int
  ID:Int
  Len:Int
  Router:Int
  Seq:Int
  Age:Int
  Sum:Int
  deriving DecidableEq
@[simp] def cellsH (h:Hdr):List AVal:=[.int .i64 h.Ty,.int .u32 h.ID,.int .i64 h.Len,.int .u32 h.Router,.int .i64 h.Seq,.int .i64 h.Age,.int .i64 h.Sum]
@[simp] def encH (h:Hdr):AVal:=.agg (cellsH h)
def chkH (h:Hdr):Int :=
 if inR h.Ty 1 5 = false then 15 else
 if h.Router = 0 ∨ inR h.Seq 1 2147483647 = false ∨ inR h.Age 0 3600 = false ∨ inR h.Sum 0 65535 = false ∨ inR h.Len 0 (if hasP h.Ty = true then 32 else 0) = false then 5 else
 if h.Ty = 1 ∧ h.ID ≠ h.Router then 14 else
 if (h.Ty = 3 ∨ h.Ty = 5) ∧ validP h.ID h.Len = false then 1 else
 if (h.Ty = 2 ∨ h.Ty = 4) ∧ h.ID = 0 then 1 else 0
set_option maxHeartbeats 4000000 in
set_option maxRecDepth 10000 in
theorem c40 (h:Hdr):CFun Tryz.prog 77 [encH h] [] (.int .i64 (chkH h)) []:=by
 refine CFun.intro (tr:=[]) (fz:=[]) (n:=84) (rs:=[.tmp 2]) Tryz.func77 rfl (by kernel_rfl) rfl rfl mixed (by kernel_rfl) (by simp) (by simp) ?_
 have h44:∀ n lo hi,CFun Tryz.prog 25 [.int .i64 n,.int .i64 lo,.int .i64 hi] [cellsH h] (.bool (inR n lo hi)) [cellsH h]:=fun n lo hi=>(c44 n lo hi).up' _ rfl rfl
 have h66:=(c66 h.Ty).up' [cellsH h] rfl rfl
 have h77:∀ H,CFun Tryz.prog 104 [.agg [.int .u32 h.ID,.int .i64 h.Len]] H (.bool (validP h.ID h.Len)) H:=fun H=>(c77 h.ID h.Len).up' H rfl rfl
 simp only [cellsH] at h44 h66
 simp
 refine ⟨_,_,.inl h66,trivial,?_⟩
 cases e0:hasP h.Ty
 all_goals
   simp
   refine ⟨_,_,.inl (h44 _ _ _),trivial,?_⟩
   cases e1:inR h.Ty 1 5
   · simp [chkH,e1]
   simp
   by_cases e2:h.Router = 0
   · simp [chkH,e1,e2]
   simp [e2]
   refine ⟨_,_,.inl (h44 _ _ _),trivial,?_⟩
   cases e3:inR h.Seq 1 2147483647
   · simp [chkH,e1,e2,e3]
   simp
   refine ⟨_,_,.inl (h44 _ _ _),trivial,?_⟩
   cases e4:inR h.Age 0 3600
   · simp [chkH,e1,e2,e3,e4]
   simp
   refine ⟨_,_,.inl (h44 _ _ _),trivial,?_⟩
   cases e5:inR h.Sum 0 65535
   · simp [chkH,e1,e2,e3,e4,e5]
   simp
   refine ⟨_,_,.inl (h44 _ _ _),trivial,?_⟩
   cases e6:inR h.Len 0 _
   · simp [chkH,e0,e1,e2,e3,e4,e5,e6]
   simp
   have hk:chkH h = if h.Ty = 1 ∧ h.ID ≠ h.Router then 14 else if (h.Ty = 3 ∨ h.Ty = 5) ∧ validP h.ID h.Len = false then 1 else if (h.Ty = 2 ∨ h.Ty = 4) ∧ h.ID = 0 then 1 else 0:=by
     simp [chkH,e0,e1,e2,e3,e4,e5,e6]
   by_cases t1:h.Ty = 1
   · by_cases e7:h.ID = h.Router
     · simp [hk,t1,e7]
     · simp [hk,t1,e7]
   by_cases t3:h.Ty = 3
   · simp [t3]
     refine ⟨_,_,.inl (h77 _),trivial,?_⟩
     cases e8:validP h.ID h.Len <;> simp [hk,t3,e8]
   by_cases t5:h.Ty = 5
   · simp [t5]
     refine ⟨_,_,.inl (h77 _),trivial,?_⟩
     cases e8:validP h.ID h.Len <;> simp [hk,t5,e8]
   by_cases t2:h.Ty = 2
   · by_cases e9:h.ID = 0 <;> simp [hk,t2,e9]
   by_cases t4:h.Ty = 4
   · by_cases e9:h.ID = 0 <;> simp [hk,t4,e9]
   simp [hk,t1,t2,t3,t4,t5]
end Go.Proofs.YtapgoboiljjecaaGreatDoor

namespace Go.Proofs.YtapgoboiljjecaaGreatDoor
open Go Go.Am
structure Lnk where
  Kind:Int
  ID:Int
  Data:Int
  Cost:Int
  deriving DecidableEq
@[simp] def cellsK (x:Lnk):List AVal:=[.int .i64 x.Kind,.int .u32 x.ID,.int .u32 x.Data,.int .i64 x.Cost]
@[simp] def encK (x:Lnk):AVal:=.agg (cellsK x)
def cmpI (a b:Int):Int:=if a < b then -1 else if b < a then 1 else 0
theorem c84 (a:Int):CFun Tryz.prog 135 [.int .i64 a] [] (.bool false) []:=by
 refine CFun.intro (tr:=[]) (fz:=[]) (n:=6) (rs:=[.tmp 2]) Tryz.func135 rfl (by kernel_rfl) rfl rfl mixed (by kernel_rfl) (by simp) (by simp) ?_
 simp
theorem c90 (a:Int):CFun Tryz.prog 136 [.int .u32 a] [] (.bool false) []:=by
 refine CFun.intro (tr:=[]) (fz:=[]) (n:=6) (rs:=[.tmp 2]) Tryz.func136 rfl (by kernel_rfl) rfl rfl mixed (by kernel_rfl) (by simp) (by simp) ?_
 simp
set_option maxRecDepth 10000 in
theorem c51 (a b:Int):CFun Tryz.prog 128 [.int .i64 a,.int .i64 b] [] (.int .i64 (cmpI a b)) []:=by
 refine CFun.intro (tr:=[]) (fz:=[]) (n:=20) (rs:=[.tmp 4]) Tryz.func128 rfl (by kernel_rfl) rfl rfl mixed (by kernel_rfl) (by simp) (by simp) ?_
 simp
 refine ⟨_,_,.inl (c84 a),trivial,?_⟩
 simp
 refine ⟨_,_,.inl (c84 b),trivial,?_⟩
 by_cases h:a < b
 · simp [h,cmpI]
 · by_cases h2:b < a <;> simp [h,h2,cmpI]
set_option maxRecDepth 10000 in
theorem c62 (a b:Int):CFun Tryz.prog 129 [.int .u32 a,.int .u32 b] [] (.int .i64 (cmpI a b)) []:=by
 refine CFun.intro (tr:=[]) (fz:=[]) (n:=20) (rs:=[.tmp 4]) Tryz.func129 rfl (by kernel_rfl) rfl rfl mixed (by kernel_rfl) (by simp) (by simp) ?_
 simp
 refine ⟨_,_,.inl (c90 a),trivial,?_⟩
 simp
 refine ⟨_,_,.inl (c90 b),trivial,?_⟩
 by_cases h:a < b
 · simp [h,cmpI]
 · by_cases h2:b < a <;> simp [h,h2,cmpI]
def orL:List Int → Int
 | []=>0
 | x :: xs=>if x = 0 then orL xs else x
set_option maxHeartbeats 1000000 in
set_option maxRecDepth 10000 in
theorem c50 (l:List Int) (n:Nat) (hn:(l.length:Int) = n) (hlen:n < 1099511627776):CFun Tryz.prog 127 [.sl 1 (l.map encI) .sh] [] (.int .i64 (orL l)) []:=by
 refine CFun.intro (tr:=[]) (fz:=[]) (n:=18) (rs:=[.tmp 2]) Tryz.func127 rfl (by kernel_rfl) rfl rfl mixed (by kernel_rfl) (by simp) (by simp) ?_
 simp [hn]
 refine LoopK.intro (tr:=[]) mixed (by kernel_rfl) (fun i:Nat=>[(3,.int .i64 0),(6,.sl 1 (l.map encI) .sh),(7,.int .i64 n),(8,.int .i64 i)]) (fun _=>[]) (fun i=>i ≤ n ∧ orL l = orL (l.drop i)) (fun i=>n - i) 0 ?_ ?_ ?_
 · simp
 · simp
 · rintro i ⟨h1,h2⟩
   by_cases hi:i < n
   · obtain ⟨y,hy,hd⟩:=get_drop (l:=l) (i:=i) (by omega)
     rw [hd] at h2
     have w1:IntKind.i64.wrap ((i:Int) + 1) = i + 1:=wrap_in (by omega)
     clear hd hn
     by_cases hy0:y = 0
     · simp [orL,hy0] at h2
       simp [hi,hy,hy0,w1]
       exact ⟨i + 1,⟨by omega,h2⟩,by omega,by simp⟩
     · simp [orL,hy0] at h2
       simp [hi,hy,hy0,h2]
   · have e:l.drop i = []:=List.drop_of_length_le (by omega)
     rw [e] at h2
     simp [orL] at h2
     simp [hi,h2]
theorem whole {k:Nat} {xs:List AVal}:LeS (.sl k xs .full) (.sl k xs .sh):=⟨rfl,.inr ⟨.inl rfl,.inl rfl⟩⟩
def ordK (a b:Lnk):Int:=orL [cmpI a.Kind b.Kind,cmpI a.ID b.ID,cmpI a.Data b.Data]
set_option maxHeartbeats 1000000 in
set_option maxRecDepth 10000 in
theorem c81 (a b:Lnk):CFun Tryz.prog 111 [encK a,encK b] [] (.int .i64 (ordK a b)) []:=by
 refine CFun.intro (tr:=[]) (fz:=[]) (n:=22) (rs:=[.tmp 4]) Tryz.func111 rfl (by kernel_rfl) rfl rfl mixed (by kernel_rfl) (by simp) (by simp) ?_
 have h50:=fun H=>((c50 [cmpI a.Kind b.Kind,cmpI a.ID b.ID,cmpI a.Data b.Data] 3 rfl (by omega)).wk [.sl 1 ([cmpI a.Kind b.Kind,cmpI a.ID b.ID,cmpI a.Data b.Data].map encI) .full] (by simp) ⟨whole,trivial⟩).up' H rfl rfl
 simp only [List.map_cons,List.map_nil,encI] at h50
 simp
 refine ⟨_,_,.inl ((c51 _ _).up' _ rfl rfl),by simp,?_⟩
 simp
 refine ⟨_,_,.inl ((c62 _ _).up' _ rfl rfl),by simp,?_⟩
 simp
 refine ⟨_,_,.inl ((c62 _ _).up' _ rfl rfl),by simp,?_⟩
 simp
 refine ⟨_,_,.inl (h50 _),by simp,?_⟩
 simp [ordK]
def stubLen (d:Int):Int:=IntKind.i64.wrap (if 33 < d then 33 else d)
def chkK (x:Lnk) (router:Int):Int :=
 if inR x.Kind 1 3 = false then 15 else if inR x.Cost 1 65535 = false then 5 else
 if (x.Kind = 1 ∧ (x.ID = 0 ∨ x.ID = router)) ∨ (x.Kind = 3 ∧ validP x.ID (stubLen x.Data) = false) then 1 else 0
set_option maxHeartbeats 2000000 in
set_option maxRecDepth 10000 in
theorem c80 (x:Lnk) (router:Int):CFun Tryz.prog 110 [encK x,.int .u32 router] [] (.int .i64 (chkK x router)) []:=by
 refine CFun.intro (tr:=[]) (fz:=[]) (n:=46) (rs:=[.tmp 4]) Tryz.func110 rfl (by kernel_rfl) rfl rfl mixed (by kernel_rfl) (by simp) (by simp) ?_
 have h44:∀ n lo hi H,CFun Tryz.prog 25 [.int .i64 n,.int .i64 lo,.int .i64 hi] H (.bool (inR n lo hi)) H:=fun n lo hi H=>(c44 n lo hi).up' H rfl rfl
 have h77:∀ H,CFun Tryz.prog 104 [.agg [.int .u32 x.ID,.int .i64 (stubLen x.Data)]] H (.bool (validP x.ID (stubLen x.Data))) H:=fun H=>(c77 x.ID _).up' H rfl rfl
 simp
 refine ⟨_,_,.inl (h44 _ _ _ _),trivial,?_⟩
 cases e1:inR x.Kind 1 3
 · simp [chkK,e1]
 simp
 refine ⟨_,_,.inl (h44 _ _ _ _),trivial,?_⟩
 cases e2:inR x.Cost 1 65535
 · simp [chkK,e1,e2]
 have hk:chkK x router = if (x.Kind = 1 ∧ (x.ID = 0 ∨ x.ID = router)) ∨ (x.Kind = 3 ∧ validP x.ID (stubLen x.Data) = false) then 1 else 0:=by simp [chkK,e1,e2]
 by_cases t1:x.Kind = 1
 · by_cases t2:x.ID = 0
   · simp [hk,t1,t2]
   · by_cases t3:x.ID = router
     · simp [hk,t1,t3]
     · simp [hk,t1,t2,t3]
 · by_cases t4:x.Kind = 3
   · cases hv:validP x.ID (stubLen x.Data)
     all_goals
       simp only [hv,stubLen] at h77 hk
       simp [t4]
       refine ⟨_,_,.inl (h77 _),by simp,?_⟩
       simp [hk,t4]
   · simp [hk,t1,t4]
def chkKs (router:Int):Option Lnk → List Lnk → Int
 | _,[]=>0
 | p,x :: xs=>if chkK x router ≠ 0 then chkK x router else match p with
   | some q=>if 0 ≤ ordK q x then 16 else chkKs router (some x) xs
   | none=>chkKs router (some x) xs
def chkLinks (l:List Lnk) (router:Int):Int:=if 64 < l.length then 4 else chkKs router none l
def prevK (l:List Lnk):Nat → Option Lnk
 | 0=>none
 | i + 1=>l[i]?
set_option maxHeartbeats 2000000 in
set_option maxRecDepth 10000 in
theorem c42 (l:List Lnk) (n:Nat) (hn:l.length = n) (router:Int):CFun Tryz.prog 79 [.sl 4 (l.map encK) .sh,.int .u32 router] [] (.int .i64 (chkLinks l router)) []:=by
 refine CFun.intro (tr:=[]) (fz:=[]) (n:=37) (rs:=[.tmp 4]) Tryz.func79 rfl (by kernel_rfl) rfl rfl mixed (by kernel_rfl) (by simp) (by simp) ?_
 have hc:(l.length:Int) = n:=by omega
 by_cases h64:(64:Int) < n
 · have:64 < l.length:=by omega
   simp [hc,h64,chkLinks,this]
 have hs:chkLinks l router = chkKs router none l:=by rw [chkLinks,if_neg (by omega)]
 simp [hc,h64]
 refine LoopK.intro (tr:=[]) mixed (by kernel_rfl) (fun i:Nat=>[(0,.sl 4 (l.map encK) .sh),(1,.int .u32 router),(11,.sl 4 (l.map encK) .sh),(12,.int .i64 n),(13,.int .i64 i)]) (fun _=>[]) (fun i=>i ≤ n ∧ chkLinks l router = chkKs router (prevK l i) (l.drop i)) (fun i=>n - i) 0 ?_ ?_ ?_
 · simp [prevK,hs]
 · simp
 · rintro i ⟨h1,h2⟩
   by_cases hi:i < n
   · obtain ⟨x,hx,hd⟩:=get_drop (l:=l) (i:=i) (by omega)
     rw [hd] at h2
     have w1:IntKind.i64.wrap ((i:Int) + 1) = i + 1:=wrap_in (by omega)
     have h80:=(c80 x router).up' [cellsK x] rfl rfl
     simp only [cellsK] at h80
     simp only [chkKs] at h2
     simp [hi,hx]
     refine ⟨_,_,.inl (by simpa using h80),trivial,?_⟩
     by_cases hk:chkK x router = 0
     · rw [if_neg (by simp [hk])] at h2
       cases i with
       | zero =>
         simp only [prevK] at h2
         clear hn hd hc hs
         have w0:IntKind.i64.wrap 1 = 1:=by decide
         simp [hk,w0]
         exact ⟨1,⟨by omega,by simpa [prevK,hx] using h2⟩,by omega,by simp⟩
       | succ j =>
         obtain ⟨q,hq,_⟩:=get_drop (l:=l) (i:=j) (by omega)
         simp only [prevK,hq] at h2
         have w2:IntKind.i64.wrap (j:Int) = j:=wrap_in (by omega)
         have h0:(0:Int) < ((j + 1:Nat):Int):=by omega
         have hjn:j < n:=by omega
         have h81:=(c81 q x).up' [cellsK x] rfl rfl
         simp only [cellsK] at h81
         clear hn hd hs
         simp only [Int.natCast_add,Int.natCast_one] at w1 h0
         simp [hk,w2,h0,hc,hq,hjn,hx]
         refine ⟨_,_,.inl (by simpa using h81),by simp,?_⟩
         by_cases ho:0 ≤ ordK q x
         · rw [if_pos ho] at h2
           simp [ho,h2]
         · rw [if_neg ho] at h2
           have w3:IntKind.i64.wrap ((j:Int) + 2) = j + 2:=wrap_in (by omega)
           simp [ho,w1,w3]
           exact ⟨j + 1 + 1,⟨by omega,by simpa [prevK,hx] using h2⟩,by omega,by simp⟩
     · rw [if_pos (by simpa using hk)] at h2
       simp [hk,h2]
   · have e:l.drop i = []:=List.drop_of_length_le (by omega)
     rw [e] at h2
     simp [chkKs] at h2
     simp [hi,h2]
def attL:Int → List Int → Bool
 | _,[]=>true
 | last,r :: rs=>if r ≤ last then false else attL r rs
def chkAtt (l:List Int) (router:Int):Int:=if 64 < l.length then 4 else if attL 0 l = false then 16 else if memL l router = false then 14 else 0
set_option maxHeartbeats 2000000 in
set_option maxRecDepth 10000 in
theorem c43 (l:List Int) (n:Nat) (hn:l.length = n) (router:Int):CFun Tryz.prog 80 [.sl 1 (l.map enc32) .sh,.int .u32 router] [] (.int .i64 (chkAtt l router)) []:=by
 refine CFun.intro (tr:=[]) (fz:=[]) (n:=26) (rs:=[.tmp 4]) Tryz.func80 rfl (by kernel_rfl) rfl rfl mixed (by kernel_rfl) (by simp) (by simp) ?_
 have hc:(l.length:Int) = n:=by omega
 by_cases h64:(64:Int) < n
 · have:64 < l.length:=by omega
   simp [hc,h64,chkAtt,this]
 have hs:chkAtt l router = if attL 0 l = false then 16 else if memL l router = false then 14 else 0:=by rw [chkAtt,if_neg (by omega)]
 have h82:=c82 l (by omega) router
 simp [hc,h64]
 refine LoopK.intro (tr:=[]) mixed (by kernel_rfl) (fun i:Nat × Int=>[(0,.sl 1 (l.map enc32) .sh),(1,.int .u32 router),(5,.int .u32 i.2),(11,.sl 1 (l.map enc32) .sh),(12,.int .i64 n),(13,.int .i64 i.1)]) (fun _=>[]) (fun i=>i.1 ≤ n ∧ attL 0 l = attL i.2 (l.drop i.1)) (fun i=>n - i.1) (0,0) ?_ ?_ ?_
 · simp
 · simp
 · rintro ⟨i,last⟩ ⟨h1,h2⟩
   simp only at h1 h2
   by_cases hi:i < n
   · obtain ⟨x,hx,hd⟩:=get_drop (l:=l) (i:=i) (by omega)
     rw [hd] at h2
     have w1:IntKind.i64.wrap ((i:Int) + 1) = i + 1:=wrap_in (by omega)
     simp only [attL] at h2
     clear hn hd hc
     by_cases hle:x ≤ last
     · rw [if_pos hle] at h2
       simp [hi,hx,hle,hs,h2]
     · rw [if_neg hle] at h2
       simp [hi,hx,hle,w1]
       exact ⟨i + 1,x,⟨by omega,h2⟩,by omega,rfl,by simp⟩
   · have e:l.drop i = []:=List.drop_of_length_le (by omega)
     rw [e] at h2
     simp [attL] at h2
     simp [hi]
     refine ⟨_,_,.inl (by simpa using h82),trivial,?_⟩
     cases e2:memL l router <;> simp [hs,h2,e2]
end Go.Proofs.YtapgoboiljjecaaGreatDoor

namespace Go.Proofs.YtapgoboiljjecaaGreatDoor
open Go Go.Am
@[simp] def encBs (b:List Int):AVal:=.sl 1 (b.map enc8) .sh
def bt (x:Int) (i:Nat):Int:=IntKind.u8.wrap (x.fdiv (2 ^ (8 * i)))
def numB:Nat → Int → List Int
 | 0,_=>[]
 | n + 1,x=>bt x n :: numB n x
theorem numB_len (n:Nat) (x:Int):(numB n x).length = n:=by
 induction n with
 | zero=>rfl
 | succ n ih=>simp [numB,ih]
set_option maxHeartbeats 1000000 in
set_option maxRecDepth 10000 in
theorem c104 (n:Nat) (hn:n ≤ 8) (x:Int):CFun Tryz.prog 76 [.int .i64 n,.int .u64 x] [] (encBs (numB n x)) []:=by
 refine CFun.intro (tr:=[13]) (fz:=[]) (n:=22) (rs:=[.tmp 4]) Tryz.func76 rfl (by kernel_rfl) rfl rfl mixed (by kernel_rfl) (by simp) (by simp) ?_
 have w0:IntKind.i64.wrap ((n:Int) - 1) = n - 1:=wrap_in (by omega)
 simp [w0]
 refine LoopK.intro (tr:=[13]) mixed (by kernel_rfl) (fun q:Nat × List Int=>[(1,.int .u64 x),(5,.sl 1 (q.2.map enc8) .own),(6,.int .i64 ((q.1:Int) - 1))]) (fun _=>[]) (fun q=>q.1 ≤ n ∧ q.2.length ≤ 8 ∧ q.2.length + q.1 = n ∧ q.2 ++ numB q.1 x = numB n x) (fun q=>q.1) (n,[]) ?_ ?_ ?_
 · exact ⟨Nat.le_refl _,by simp,by simp,rfl⟩
 · simp
 · rintro ⟨k,out⟩ ⟨h1,h2,h3,h4⟩
   simp only at h1 h2 h3 h4
   cases k with
   | zero =>
     simp only [numB,List.append_nil] at h4
     simp [h4]
   | succ k =>
     have w1:IntKind.i64.wrap (8 * (k:Int)) = 8 * k:=wrap_in (by omega)
     have w2:IntKind.i64.wrap ((k:Int) - 1) = k - 1:=wrap_in (by omega)
     have h0:(0:Int) ≤ k:=by omega
     have h5:¬ (8 * (k:Int) < 0):=by omega
     have h6:min (8 * (k:Int)).toNat IntKind.u64.bits = 8 * k:=by
       have:IntKind.u64.bits = 64:=rfl
       omega
     have s1:out.length + 1 ≤ 140737488355328:=by omega
     have hb:IntKind.u8.wrap (x.fdiv (2 ^ (8 * k))) = bt x k:=rfl
     simp [w1,w2,h0,h5,h6,s1,hb]
     exact ⟨k,out ++ [bt x k],⟨by omega,by simp; omega,by simp; omega,by rw [← h4]; simp [numB]⟩,by omega,by simp,rfl⟩
theorem flat_take {α:Type} (ps:List (List α)) (i:Nat) (p:List α) (h:ps[i]? = some p):(ps.take (i + 1)).flatten = (ps.take i).flatten ++ p:=by
 rw [List.take_add_one,h]; simp
theorem flat_le {α:Type} (ps:List (List α)) (i:Nat):(ps.take i).flatten.length ≤ ps.flatten.length:=by
 have:=congrArg (fun l=>l.flatten.length) (List.take_append_drop i ps)
 simp only [List.flatten_append,List.length_append] at this
 omega
set_option maxHeartbeats 2000000 in
set_option maxRecDepth 10000 in
theorem c103 (ps:List (List Int)) (n:Nat) (hn:(ps.length:Int) = n) (hlen:n < 1099511627776) (hsz:ps.flatten.length < 1099511627776):CFun Tryz.prog 75 [.sl 1 (ps.map encBs) .sh] [] (.sl 1 (ps.flatten.map enc8) .own) []:=by
 refine CFun.intro (tr:=[28,32]) (fz:=[]) (n:=33) (rs:=[.tmp 2]) Tryz.func75 rfl (by kernel_rfl) rfl rfl mixed (by kernel_rfl) (by simp) (by simp) ?_
 simp [hn]
 refine LoopK.intro (tr:=[28,32]) mixed (by kernel_rfl) (fun i:Nat=>[(0,.sl 1 (ps.map encBs) .sh),(3,.int .i64 ((ps.take i).flatten.length:Nat)),(9,.sl 1 (ps.map encBs) .sh),(10,.int .i64 n),(11,.int .i64 i)]) (fun _=>[]) (fun i=>i ≤ n) (fun i=>n - i) 0 ?_ ?_ ?_
 · simp
 · simp
 · rintro i h1
   by_cases hi:i < n
   · obtain ⟨p,hp,_⟩:=get_drop (l:=ps) (i:=i) (by omega)
     have w1:IntKind.i64.wrap ((i:Int) + 1) = i + 1:=wrap_in (by omega)
     have hf:=flat_take ps i p hp
     have hl:=flat_le ps (i + 1)
     rw [hf,List.length_append] at hl
     have w2:IntKind.i64.wrap (((ps.take i).flatten.length:Int) + p.length) = (ps.take i).flatten.length + p.length:=wrap_in (by omega)
     have hfl:((ps.take (i + 1)).flatten.length:Int) = (ps.take i).flatten.length + p.length:=by rw [hf,List.length_append]; omega
     generalize (ps.take i).flatten.length = m1 at w2 hfl
     generalize hm2:(ps.take (i + 1)).flatten.length = m2 at hfl
     clear hn hf hl
     simp [hi,hp,w1,w2,-List.length_flatten]
     refine ⟨i + 1,by omega,by omega,?_,by simp⟩
     rw [hm2]; omega
   · have hin:i = n:=by omega
     subst hin
     have ht:ps.take i = ps:=List.take_of_length_le (by omega)
     rw [ht]
     have z1:(0:Int) ≤ (ps.flatten.length:Nat):=by omega
     have z2:ps.flatten.length ≤ 281474976710656:=by omega
     have z3:((ps.flatten.length:Nat):Int) ≤ 9223372036854775807:=by omega
     simp [hn,z1,z2,z3,-List.length_flatten]
     refine LoopK.intro (tr:=[28,32]) mixed (by kernel_rfl) (fun j:Nat=>[(6,.sl 1 ((ps.take j).flatten.map enc8) .own),(22,.sl 1 (ps.map encBs) .sh),(23,.int .i64 i),(24,.int .i64 j)]) (fun _=>[]) (fun j=>j ≤ i) (fun j=>i - j) 0 ?_ ?_ ?_
     · simp
     · simp
     · rintro j j1
       by_cases hj:j < i
       · obtain ⟨p,hp,_⟩:=get_drop (l:=ps) (i:=j) (by omega)
         have w1:IntKind.i64.wrap ((j:Int) + 1) = j + 1:=wrap_in (by omega)
         have hf:=flat_take ps j p hp
         have hl:=flat_le ps (j + 1)
         rw [hf,List.length_append] at hl
         have s1:(ps.take j).flatten.length + p.length ≤ 140737488355328:=by omega
         generalize (ps.take j).flatten = m1 at s1 hf hl
         clear hn hl
         simp [hj,hp,w1,s1,-List.map_flatten]
         refine ⟨j + 1,by omega,by omega,?_,by simp⟩
         rw [hf]; simp
       · have hji:j = i:=by omega
         subst hji
         rw [ht]
         simp [-List.map_flatten]
         exact List.map_flatten
set_option maxHeartbeats 1000000 in
set_option maxRecDepth 10000 in
theorem c88 (b:List Int) (hb:b.length < 1099511627000) (n:Nat) (hn:n ≤ 8) (x:Int):CFun Tryz.prog 21 [encBs b,.int .i64 n,.int .u64 x] [] (.sl 1 ((b ++ numB n x).map enc8) .own) []:=by
 refine CFun.intro (tr:=[]) (fz:=[]) (n:=15) (rs:=[.tmp 6]) Tryz.func21 rfl (by kernel_rfl) rfl rfl mixed (by kernel_rfl) (by simp) (by simp) ?_
 have h103:=(c103 [b,numB n x] 2 rfl (by omega) (by simp [numB_len]; omega)).wk [.sl 1 ([b,numB n x].map encBs) .full] (by simp) ⟨whole,trivial⟩
 simp only [List.map_cons,List.map_nil,List.flatten_cons,List.flatten_nil,List.append_nil] at h103
 have z1:¬ ((n:Int) < 0):=by omega
 have z2:¬ ((8:Int) < n):=by omega
 simp [z1,z2]
 refine ⟨_,_,.inl (c104 n hn x),by simp,?_⟩
 simp
 refine ⟨_,_,.inl (by simpa [cargs] using h103),by simp,?_⟩
 simp
end Go.Proofs.YtapgoboiljjecaaGreatDoor

namespace Go.Proofs.YtapgoboiljjecaaGreatDoor
open Go Go.Am
set_option maxHeartbeats 1000000 in
set_option maxRecDepth 10000 in
theorem c92 (b:List Int) (hb:b.length < 1099511627000) (n:Nat) (hn:n ≤ 8) (x:Int):CFun Tryz.prog 117 [.int .i64 n,.int .u64 x,.ptr 0 0] [[encBs b]] (.tup []) [[encBs (b ++ numB n x)]]:=by
 refine CFun.intro (tr:=[]) (fz:=[]) (n:=9) (rs:=[]) Tryz.func117 rfl (by kernel_rfl) rfl rfl mixed (by kernel_rfl) (by simp) (by simp) ?_
 simp
 refine ⟨_,_,.inl (by simpa [cargs] using (c88 b hb n hn x).up' [[encBs b]] rfl rfl),by simp,?_⟩
 simp
set_option maxHeartbeats 1000000 in
set_option maxRecDepth 10000 in
theorem c92z (k:Nat) (n:Nat) (hn:n ≤ 8) (x:Int):CFun Tryz.prog 117 [.int .i64 n,.int .u64 x,.ptr 0 0] [[.sl k [] .full]] (.tup []) [[encBs (numB n x)]]:=by
 refine CFun.intro (tr:=[]) (fz:=[]) (n:=9) (rs:=[]) Tryz.func117 rfl (by kernel_rfl) rfl rfl mixed (by kernel_rfl) (by simp) (by simp) ?_
 simp
 refine ⟨_,_,.inl (by simpa [cargs] using ((c88 [] (by simp) n hn x).wk [.sl k [] .full,.int .i64 n,.int .u64 x] (by simp) ⟨⟨rfl,.inr ⟨.inr rfl,.inl rfl⟩⟩,rfl,rfl,trivial⟩).up' [[.sl k [] .full]] rfl rfl),by simp,?_⟩
 simp
theorem put92 {H:List (List AVal)} {id:Nat} {b:List Int} (n:Nat) (x:Int) (hid:H[id]? = some [encBs b]) (hn:n ≤ 8) (hb:b.length < 1099511627000):CFun Tryz.prog 117 [.int .i64 n,.int .u64 x,.ptr id 0] H (.tup []) (H.set id [encBs (b ++ numB n x)]) :=
 (c92 b hb n hn x).at hid rfl rfl rfl rfl
theorem put92z {H:List (List AVal)} {id k:Nat} (n:Nat) (x:Int) (hid:H[id]? = some [.sl k [] .full]) (hn:n ≤ 8):CFun Tryz.prog 117 [.int .i64 n,.int .u64 x,.ptr id 0] H (.tup []) (H.set id [encBs (numB n x)]) :=
 (c92z k n hn x).at hid rfl rfl rfl rfl
abbrev U (x:Int):Int:=IntKind.u64.wrap x
def hdrB (h:Hdr):List Int:=numB 2 (U h.Age) ++ numB 1 (U h.Ty) ++ numB 1 (U h.Len) ++ numB 4 (U h.ID) ++ numB 4 (U h.Router) ++ numB 4 (U h.Seq) ++ numB 2 (U h.Sum)
set_option maxHeartbeats 2000000 in
set_option maxRecDepth 10000 in
theorem c69 (h:Hdr):CFun Tryz.prog 83 [encH h] [] (encBs (hdrB h)) []:=by
 refine CFun.intro (tr:=[]) (fz:=[]) (n:=42) (rs:=[.tmp 2]) Tryz.func83 rfl (by kernel_rfl) rfl rfl mixed (by kernel_rfl) (by simp) (by simp) ?_
 simp
 refine ⟨_,_,.inl (put92z 2 (U h.Age) (by rfl) (by omega)),by simp,?_⟩
 simp [-List.map_append]
 refine ⟨_,_,.inl (put92 1 (U h.Ty) (by rfl) (by omega) (by simp [numB_len])),by simp,?_⟩
 simp [-List.map_append]
 refine ⟨_,_,.inl (put92 1 (U h.Len) (by rfl) (by omega) (by simp [numB_len])),by simp,?_⟩
 simp [-List.map_append]
 refine ⟨_,_,.inl (put92 4 (U h.ID) (by rfl) (by omega) (by simp [numB_len])),by simp,?_⟩
 simp [-List.map_append]
 refine ⟨_,_,.inl (put92 4 (U h.Router) (by rfl) (by omega) (by simp [numB_len])),by simp,?_⟩
 simp [-List.map_append]
 refine ⟨_,_,.inl (put92 4 (U h.Seq) (by rfl) (by omega) (by simp [numB_len])),by simp,?_⟩
 simp [-List.map_append]
 refine ⟨_,_,.inl (put92 2 (U h.Sum) (by rfl) (by omega) (by simp [numB_len])),by simp,?_⟩
 simp [-List.map_append,hdrB]
theorem hdrB_len (h:Hdr):(hdrB h).length = 18:=by simp [hdrB,numB_len]
end Go.Proofs.YtapgoboiljjecaaGreatDoor

namespace Go.Proofs.YtapgoboiljjecaaGreatDoor
open Go Go.Am
structure Lsa where
  H:Hdr
  Border:Bool
  Boundary:Bool
  Links:List Lnk
  Att:List Int
  Cost:Int
  Second:Bool
  Fwd:Int
  Tag:Int
  deriving DecidableEq
@[simp] def cellsA (l:Lsa):List AVal:=[.int .i64 l.H.Ty,.int .u32 l.H.ID,.int .i64 l.H.Len,.int .u32 l.H.Router,.int .i64 l.H.Seq,.int .i64 l.H.Age,.int .i64 l.H.Sum,
  .bool l.Border,.bool l.Boundary,.sl 4 (l.Links.map encK) .sh,.sl 1 (l.Att.map enc32) .sh,.int .i64 l.Cost,.bool l.Second,.int .u32 l.Fwd,.int .i64 l.Tag]
@[simp] def encA (l:Lsa):AVal:=.agg (cellsA l)
def flagI (b:Bool) (n:Int):Int:=if b = true then n else 0
theorem c102 (b:Bool) (n:Int):CFun Tryz.prog 116 [.bool b,.int .u64 n] [] (.int .u64 (flagI b n)) []:=by
 refine CFun.intro (tr:=[]) (fz:=[]) (n:=7) (rs:=[.tmp 4]) Tryz.func116 rfl (by kernel_rfl) rfl rfl mixed (by kernel_rfl) (by simp) (by simp) ?_
 cases b <;> simp [flagI]
theorem c101 (b:List Int) (hb:b.length < 1099511627000) (n:Nat) (hn:n ≤ 8) (x:Int):CFun Tryz.prog 115 [.int .i64 n,.int .u64 x,.ptr 0 0] [[encBs b]] (.tup []) [[encBs (b ++ numB n x)]]:=by
 refine CFun.intro (tr:=[]) (fz:=[]) (n:=9) (rs:=[]) Tryz.func115 rfl (by kernel_rfl) rfl rfl mixed (by kernel_rfl) (by simp) (by simp) ?_
 simp
 refine ⟨_,_,.inl (by simpa [cargs] using (c88 b hb n hn x).up' [[encBs b]] rfl rfl),by simp,?_⟩
 simp
theorem c101z (k:Nat) (n:Nat) (hn:n ≤ 8) (x:Int):CFun Tryz.prog 115 [.int .i64 n,.int .u64 x,.ptr 0 0] [[.sl k [] .full]] (.tup []) [[encBs (numB n x)]]:=by
 refine CFun.intro (tr:=[]) (fz:=[]) (n:=9) (rs:=[]) Tryz.func115 rfl (by kernel_rfl) rfl rfl mixed (by kernel_rfl) (by simp) (by simp) ?_
 simp
 refine ⟨_,_,.inl (by simpa [cargs] using ((c88 [] (by simp) n hn x).wk [.sl k [] .full,.int .i64 n,.int .u64 x] (by simp) ⟨⟨rfl,.inr ⟨.inr rfl,.inl rfl⟩⟩,rfl,rfl,trivial⟩).up' [[.sl k [] .full]] rfl rfl),by simp,?_⟩
 simp
theorem put101 {H:List (List AVal)} {id:Nat} {b:List Int} (n:Nat) (x:Int) (hid:H[id]? = some [encBs b]) (hn:n ≤ 8) (hb:b.length < 1099511627000):CFun Tryz.prog 115 [.int .i64 n,.int .u64 x,.ptr id 0] H (.tup []) (H.set id [encBs (b ++ numB n x)]) :=
 (c101 b hb n hn x).at hid rfl rfl rfl rfl
theorem put101z {H:List (List AVal)} {id k:Nat} (n:Nat) (x:Int) (hid:H[id]? = some [.sl k [] .full]) (hn:n ≤ 8):CFun Tryz.prog 115 [.int .i64 n,.int .u64 x,.ptr id 0] H (.tup []) (H.set id [encBs (numB n x)]) :=
 (c101z k n hn x).at hid rfl rfl rfl rfl
def orU (a b:Int):Int:=IntKind.u64.wrap (((a % 2 ^ IntKind.u64.bits).toNat ||| (b % 2 ^ IntKind.u64.bits).toNat:Nat):Int)
def linkB (x:Lnk):List Int:=numB 1 (U x.Kind) ++ numB 4 (U x.ID) ++ numB 4 (U x.Data) ++ numB 2 (U x.Cost)
def attB (x:Int):List Int:=numB 4 (U x)
def bodyB (l:Lsa):List Int :=
 if l.H.Ty = 1 then numB 1 (orU (flagI l.Border 1) (flagI l.Boundary 2)) ++ numB 1 (U l.Links.length) ++ (l.Links.map linkB).flatten
 else if l.H.Ty = 2 then numB 1 (U l.Att.length) ++ (l.Att.map attB).flatten
 else if l.H.Ty = 3 ∨ l.H.Ty = 4 then numB 4 (U l.Cost)
 else if l.H.Ty = 5 then numB 1 (flagI l.Second 1) ++ numB 4 (U l.Cost) ++ numB 4 (U l.Fwd) ++ numB 4 (U l.Tag)
 else []
theorem linkB_len (x:Lnk):(linkB x).length = 11:=by simp [linkB,numB_len]
theorem attB_len (x:Int):(attB x).length = 4:=by simp [attB,numB_len]
theorem take_map {α β:Type} (f:α → List β) (l:List α) (i:Nat) (x:α) (h:l[i]? = some x):((l.map f).take (i + 1)).flatten = ((l.map f).take i).flatten ++ f x :=
 flat_take _ _ _ (by simp [h])
set_option maxHeartbeats 4000000 in
set_option maxRecDepth 10000 in
theorem c87 (l:Lsa) (hl:l.Links.length ≤ 64) (ha:l.Att.length ≤ 64):CFun Tryz.prog 82 [encA l] [] (encBs (bodyB l)) []:=by
 refine CFun.intro (tr:=[200031,200093]) (fz:=[]) (n:=110) (rs:=[.tmp 2]) Tryz.func82 rfl (by kernel_rfl) rfl rfl mixed (by kernel_rfl) (by simp) (by simp) ?_
 have h102:∀ b n H,CFun Tryz.prog 116 [.bool b,.int .u64 n] H (.int .u64 (flagI b n)) H:=fun b n H=>(c102 b n).up' H rfl rfl
 by_cases t3:l.H.Ty = 3
 · simp [t3]
   refine ⟨_,_,.inl (put101z 4 (U l.Cost) (by rfl) (by omega)),by simp,?_⟩
   simp [bodyB,t3]
 by_cases t4:l.H.Ty = 4
 · simp [t4]
   refine ⟨_,_,.inl (put101z 4 (U l.Cost) (by rfl) (by omega)),by simp,?_⟩
   simp [bodyB,t4]
 by_cases t5:l.H.Ty = 5
 · simp [t5]
   refine ⟨_,_,.inl (h102 _ _ _),by simp,?_⟩
   simp
   refine ⟨_,_,.inl (put101z 1 (flagI l.Second 1) (by rfl) (by omega)),by simp,?_⟩
   simp
   refine ⟨_,_,.inl (put101 4 (U l.Cost) (by rfl) (by omega) (by simp [numB_len])),by simp,?_⟩
   simp [-List.map_append]
   refine ⟨_,_,.inl (put101 4 (U l.Fwd) (by rfl) (by omega) (by simp [numB_len])),by simp,?_⟩
   simp [-List.map_append]
   refine ⟨_,_,.inl (put101 4 (U l.Tag) (by rfl) (by omega) (by simp [numB_len])),by simp,?_⟩
   simp [-List.map_append,bodyB,t5]
 by_cases t1:l.H.Ty = 1
 · have h1:bodyB l = numB 1 (orU (flagI l.Border 1) (flagI l.Boundary 2)) ++ numB 1 (U l.Links.length) ++ (l.Links.map linkB).flatten:=by simp [bodyB,t1]
   rw [h1]
   obtain ⟨n,hn⟩:∃ n,l.Links.length = n:=⟨_,rfl⟩
   have hc:(l.Links.length:Int) = n:=by omega
   rw [hc]
   simp [t1,hc,-List.map_append,-List.append_assoc]
   refine ⟨_,_,.inl (h102 _ _ _),by simp,?_⟩
   simp [-List.map_append,-List.append_assoc]
   refine ⟨_,_,.inl (h102 _ _ _),by simp,?_⟩
   simp [-List.map_append,-List.append_assoc]
   refine ⟨_,_,.inl (put101z 1 (orU (flagI l.Border 1) (flagI l.Boundary 2)) (by rfl) (by omega)),by simp,?_⟩
   simp [hc,-List.map_append,-List.append_assoc]
   refine ⟨_,_,.inl (put101 1 (U n) (by rfl) (by omega) (by simp [numB_len])),by simp,?_⟩
   have hp:(numB 1 (orU (flagI l.Border 1) (flagI l.Boundary 2)) ++ numB 1 (U n)).length = 2:=by simp [numB_len]
   generalize numB 1 (orU (flagI l.Border 1) (flagI l.Boundary 2)) ++ numB 1 (U n) = pre at hp ⊢
   simp [hc,-List.map_append,-List.append_assoc]
   refine LoopK.intro (tr:=[200031,200093]) mixed (by kernel_rfl) (fun q:Nat × List Int=>[(3,.ptr 1 0),(4,.fn 115 [] [.ptr 1 0]),(39,.sl 4 (l.Links.map encK) .sh),(40,.int .i64 n),(41,.int .i64 q.1)]) (fun q=>[cellsA l,[encBs q.2]])
     (fun q=>q.1 ≤ n ∧ q.2.length ≤ 2 + 11 * q.1 ∧ q.2 = pre ++ ((l.Links.map linkB).take q.1).flatten) (fun q=>n - q.1) (0,pre) ?_ ?_ ?_
   · exact ⟨by simp,by simp [hp],by simp⟩
   · simp [t1]
   · rintro ⟨i,out⟩ ⟨k1,k2,k3⟩
     simp only at k1 k2 k3
     by_cases hi:i < n
     · obtain ⟨x,hx,_⟩:=get_drop (l:=l.Links) (i:=i) (by omega)
       have w1:IntKind.i64.wrap ((i:Int) + 1) = i + 1:=wrap_in (by omega)
       have hnx:=take_map linkB l.Links i x hx
       have s0:out.length < 1099511620000:=by omega
       clear hc hn
       simp [hi,hx]
       refine ⟨_,_,.inl (put101 1 (U x.Kind) (by rfl) (by omega) (by first | omega | (simp [numB_len]; omega))),by simp,?_⟩
       simp [-List.map_append]
       refine ⟨_,_,.inl (put101 4 (U x.ID) (by rfl) (by omega) (by first | omega | (simp [numB_len]; omega))),by simp,?_⟩
       simp [-List.map_append]
       refine ⟨_,_,.inl (put101 4 (U x.Data) (by rfl) (by omega) (by first | omega | (simp [numB_len]; omega))),by simp,?_⟩
       simp [-List.map_append]
       refine ⟨_,_,.inl (put101 2 (U x.Cost) (by rfl) (by omega) (by first | omega | (simp [numB_len]; omega))),by simp,?_⟩
       simp [-List.map_append,w1]
       refine ⟨i + 1,out ++ linkB x,⟨by omega,by rw [List.length_append,linkB_len]; omega,?_⟩,by omega,by simp,by simp [linkB]⟩
       show out ++ linkB x = pre ++ ((l.Links.map linkB).take (i + 1)).flatten
       rw [hnx,← List.append_assoc,← k3]
     · have hin:i = n:=by omega
       subst hin
       have ht:(l.Links.map linkB).take i = l.Links.map linkB:=List.take_of_length_le (by simp; omega)
       rw [ht] at k3
       simp [k3]
 by_cases t2:l.H.Ty = 2
 · have h1:bodyB l = numB 1 (U l.Att.length) ++ (l.Att.map attB).flatten:=by simp [bodyB,t2]
   rw [h1]
   obtain ⟨n,hn⟩:∃ n,l.Att.length = n:=⟨_,rfl⟩
   have hc:(l.Att.length:Int) = n:=by omega
   rw [hc]
   simp [t2,hc,-List.map_append]
   refine ⟨_,_,.inl (put101z 1 (U n) (by rfl) (by omega)),by simp,?_⟩
   have hp:(numB 1 (U n)).length = 1:=by simp [numB_len]
   generalize numB 1 (U n) = pre at hp ⊢
   simp [hc,-List.map_append]
   refine LoopK.intro (tr:=[200031,200093]) mixed (by kernel_rfl) (fun q:Nat × List Int=>[(3,.ptr 1 0),(4,.fn 115 [] [.ptr 1 0]),(73,.sl 1 (l.Att.map enc32) .sh),(74,.int .i64 n),(75,.int .i64 q.1)]) (fun q=>[cellsA l,[encBs q.2]])
     (fun q=>q.1 ≤ n ∧ q.2.length ≤ 1 + 4 * q.1 ∧ q.2 = pre ++ ((l.Att.map attB).take q.1).flatten) (fun q=>n - q.1) (0,pre) ?_ ?_ ?_
   · exact ⟨by simp,by simp [hp],by simp⟩
   · simp [t2]
   · rintro ⟨i,out⟩ ⟨k1,k2,k3⟩
     simp only at k1 k2 k3
     by_cases hi:i < n
     · obtain ⟨x,hx,_⟩:=get_drop (l:=l.Att) (i:=i) (by omega)
       have w1:IntKind.i64.wrap ((i:Int) + 1) = i + 1:=wrap_in (by omega)
       have hnx:=take_map attB l.Att i x hx
       have s0:out.length < 1099511620000:=by omega
       clear hc hn
       simp [hi,hx]
       refine ⟨_,_,.inl (put101 4 (U x) (by rfl) (by omega) (by first | omega | (simp [numB_len]; omega))),by simp,?_⟩
       simp [-List.map_append,w1]
       refine ⟨i + 1,out ++ attB x,⟨by omega,by rw [List.length_append,attB_len]; omega,?_⟩,by omega,by simp,by simp [attB]⟩
       show out ++ attB x = pre ++ ((l.Att.map attB).take (i + 1)).flatten
       rw [hnx,← List.append_assoc,← k3]
     · have hin:i = n:=by omega
       subst hin
       have ht:(l.Att.map attB).take i = l.Att.map attB:=List.take_of_length_le (by simp; omega)
       rw [ht] at k3
       simp [k3]
 · simp [t1,t2,t3,t4,t5,bodyB]
end Go.Proofs.YtapgoboiljjecaaGreatDoor

namespace Go.Proofs.YtapgoboiljjecaaGreatDoor
open Go Go.Am
theorem bodyB_len (l:Lsa) (hl:l.Links.length ≤ 64) (ha:l.Att.length ≤ 64):(bodyB l).length ≤ 706:=by
 have h1:((l.Links.map linkB).flatten).length = l.Links.length * 11:=by
   induction l.Links with
   | nil=>rfl
   | cons x xs ih=>simp only [List.map_cons,List.flatten_cons,List.length_append,linkB_len,List.length_cons,ih]; omega
 have h2:((l.Att.map attB).flatten).length = l.Att.length * 4:=by
   induction l.Att with
   | nil=>rfl
   | cons x xs ih=>simp only [List.map_cons,List.flatten_cons,List.length_append,attB_len,List.length_cons,ih]; omega
 unfold bodyB
 split
 · simp only [List.length_append,numB_len,h1]; omega
 · split
   · simp only [List.length_append,numB_len,h2]; omega
   · split
     · simp [numB_len]
     · split <;> simp [numB_len]
def bytesA (l:Lsa):List Int:=hdrB l.H ++ numB 2 (U (bodyB l).length) ++ bodyB l
theorem bytesA_len (l:Lsa) (hl:l.Links.length ≤ 64) (ha:l.Att.length ≤ 64):(bytesA l).length ≤ 726:=by
 have:=bodyB_len l hl ha
 simp only [bytesA,List.length_append,hdrB_len,numB_len]; omega
set_option maxHeartbeats 1000000 in
set_option maxRecDepth 10000 in
theorem c59 (l:Lsa) (hl:l.Links.length ≤ 64) (ha:l.Att.length ≤ 64):CFun Tryz.prog 29 [encA l] [] (encBs (bytesA l)) []:=by
 refine CFun.intro (tr:=[]) (fz:=[]) (n:=15) (rs:=[.tmp 2]) Tryz.func29 rfl (by kernel_rfl) rfl rfl mixed (by kernel_rfl) (by simp) (by simp) ?_
 have h87:=(c87 l hl ha).up' [cellsA l] rfl rfl
 have h69:=(c69 l.H).up' [cellsA l] rfl rfl
 have hb:=bodyB_len l hl ha
 have h88:=(c88 (hdrB l.H) (by rw [hdrB_len]; omega) 2 (by omega) (U (bodyB l).length)).up' [cellsA l] rfl rfl
 have s1:(hdrB l.H).length + 2 + (bodyB l).length ≤ 140737488355328:=by rw [hdrB_len]; omega
 have hbc:((bodyB l).length:Int) = ((bodyB l).length:Nat):=rfl
 simp
 refine ⟨_,_,.inl h87,trivial,?_⟩
 simp
 refine ⟨_,_,.inl h69,trivial,?_⟩
 simp
 refine ⟨_,_,.inl (by simpa [cargs] using h88),by simp,?_⟩
 simp [numB_len,s1,bytesA]
def resI (n:Int):Int:=IntKind.i64.wrap ((IntKind.i64.wrap ((IntKind.i64.wrap (n - 1)).tmod 255 + 255)).tmod 255 + 1)
theorem c98 (n:Int):CFun Tryz.prog 114 [.int .i64 n] [] (.int .i64 (resI n)) []:=by
 refine CFun.intro (tr:=[]) (fz:=[]) (n:=9) (rs:=[.tmp 2]) Tryz.func114 rfl (by kernel_rfl) rfl rfl mixed (by kernel_rfl) (by simp) (by simp) ?_
 simp [resI]
def sumStep (n:Int) (skip:Int) (i:Nat) (s:Int × Int) (b:Int):Int × Int :=
 if 0 ≤ skip ∧ ((i:Int) = skip ∨ (i:Int) = IntKind.i64.wrap (skip + 1)) then s else
 ((IntKind.i64.wrap (s.1 + IntKind.i64.wrap b)).tmod 255,(IntKind.i64.wrap (s.2 + IntKind.i64.wrap ((IntKind.i64.wrap (n - i)).tmod 255 * IntKind.i64.wrap b))).tmod 255)
def sumsL (n:Int) (skip:Int):List Int → Nat → Int × Int → Int × Int
 | [],_,s=>s
 | b :: bs,i,s=>sumsL n skip bs (i + 1) (sumStep n skip i s b)
set_option maxHeartbeats 2000000 in
set_option maxRecDepth 10000 in
theorem c97 (b:List Int) (n:Nat) (hn:(b.length:Int) = n) (hlen:n < 1099511627776) (skip:Int):CFun Tryz.prog 113 [encBs b,.int .i64 skip] [] (.agg [.int .i64 (sumsL n skip b 0 (0,0)).1,.int .i64 (sumsL n skip b 0 (0,0)).2]) []:=by
 refine CFun.intro (tr:=[]) (fz:=[]) (n:=53) (rs:=[.cell 4 193]) Tryz.func113 rfl (by kernel_rfl) rfl rfl mixed (by kernel_rfl) (by simp) (by simp) ?_
 simp [hn]
 refine LoopK.intro (tr:=[]) mixed (by kernel_rfl) (fun q:Nat × Int × Int=>[(0,encBs b),(1,.int .i64 skip),(4,.ptr 0 0),(5,.ptr 1 0),(8,.int .i64 n),(9,.int .i64 q.1)]) (fun q=>[[.int .i64 0,.int .i64 0],[.int .i64 q.2.1,.int .i64 q.2.2]])
   (fun q=>q.1 ≤ n ∧ sumsL n skip b 0 (0,0) = sumsL n skip (b.drop q.1) q.1 q.2) (fun q=>n - q.1) (0,0,0) ?_ ?_ ?_
 · simp
 · simp
 · rintro ⟨i,s0,s1⟩ ⟨h1,h2⟩
   simp only at h1 h2
   by_cases hi:i < n
   · obtain ⟨x,hx,hd⟩:=get_drop (l:=b) (i:=i) (by omega)
     rw [hd] at h2
     have w1:IntKind.i64.wrap ((i:Int) + 1) = i + 1:=wrap_in (by omega)
     simp only [sumsL,sumStep] at h2
     clear hd
     by_cases k0:0 ≤ skip
     · by_cases k1:(i:Int) = skip
       · subst k1
         simp [k0] at h2
         simp [hi,w1]
         exact ⟨i + 1,s0,s1,⟨by omega,h2⟩,by omega,by simp,rfl,rfl⟩
       · by_cases k2:(i:Int) = IntKind.i64.wrap (skip + 1)
         · rw [if_pos ⟨k0,.inr k2⟩] at h2
           have b1:((i:Int) == skip) = false:=by simpa using k1
           have b2:((i:Int) == IntKind.i64.wrap (skip + 1)) = true:=by simpa using k2
           simp [hi,k0,b1,b2,w1]
           exact ⟨i + 1,s0,s1,⟨by omega,h2⟩,by omega,by simp,rfl,rfl⟩
         · rw [if_neg (by rintro ⟨_,h | h⟩ <;> contradiction)] at h2
           have b1:((i:Int) == skip) = false:=by simpa using k1
           have b2:((i:Int) == IntKind.i64.wrap (skip + 1)) = false:=by simpa using k2
           simp [hi,k0,b1,b2,hx,hn,w1]
           exact ⟨i + 1,_,_,⟨by omega,h2⟩,by omega,by simp,rfl,rfl⟩
     · rw [if_neg (by omega)] at h2
       simp [hi,k0,hx,hn,w1]
       exact ⟨i + 1,_,_,⟨by omega,h2⟩,by omega,by simp,rfl,rfl⟩
   · have e:b.drop i = []:=List.drop_of_length_le (by omega)
     rw [e] at h2
     simp [sumsL] at h2
     simp [hi,h2]
def fletch (b:List Int) (at_:Int):Int × Bool :=
 if at_ < 0 ∨ IntKind.i64.wrap ((b.length:Int) - 1) ≤ at_ then (0,false) else
 let s:=sumsL b.length at_ b 0 (0,0)
 let x:=resI (IntKind.i64.wrap (IntKind.i64.wrap ((IntKind.i64.wrap (IntKind.i64.wrap ((b.length:Int) - at_) - 1)).tmod 255 * s.1) - s.2))
 let y:=resI (IntKind.i64.wrap (IntKind.i64.wrap (0 - s.1) - x))
 (IntKind.i64.wrap (IntKind.i64.wrap (256 * x) + y),true)
set_option maxHeartbeats 2000000 in
set_option maxRecDepth 10000 in
theorem c85 (b:List Int) (hlen:b.length < 1099511627776) (at_:Int):CFun Tryz.prog 81 [encBs b,.int .i64 at_] [] (.tup [.int .i64 (fletch b at_).1,.bool (fletch b at_).2]) []:=by
 refine CFun.intro (tr:=[]) (fz:=[]) (n:=44) (rs:=[.tmp 4,.tmp 5]) Tryz.func81 rfl (by kernel_rfl) rfl rfl mixed (by kernel_rfl) (by simp) (by simp) ?_
 by_cases h1:at_ < 0
 · simp [h1,fletch]
 by_cases h2:IntKind.i64.wrap ((b.length:Int) - 1) ≤ at_
 · simp [h1,h2,fletch]
 have h97:=c97 b b.length rfl hlen at_
 have h98:∀ n H,CFun Tryz.prog 114 [.int .i64 n] H (.int .i64 (resI n)) H:=fun n H=>(c98 n).up' H rfl rfl
 simp only [fletch,if_neg (show ¬ (at_ < 0 ∨ IntKind.i64.wrap ((b.length:Int) - 1) ≤ at_) by rintro (h | h) <;> contradiction)]
 generalize sumsL b.length at_ b 0 (0,0) = s at h97 ⊢
 simp [h1,h2]
 refine ⟨_,_,.inl h97,trivial,?_⟩
 simp
 refine ⟨_,_,.inl (h98 _ _),by simp,?_⟩
 simp
 refine ⟨_,_,.inl (h98 _ _),by simp,?_⟩
 simp
def sumA (l:Lsa):Int:=(fletch ((bytesA l).drop 2) 14).1
set_option maxHeartbeats 1000000 in
set_option maxRecDepth 10000 in
theorem c54 (l:Lsa) (hl:l.Links.length ≤ 64) (ha:l.Att.length ≤ 64):CFun Tryz.prog 28 [encA l] [] (.int .i64 (sumA l)) []:=by
 refine CFun.intro (tr:=[]) (fz:=[]) (n:=13) (rs:=[.tmp 2]) Tryz.func28 rfl (by kernel_rfl) rfl rfl mixed (by kernel_rfl) (by simp) (by simp) ?_
 have h59:=(c59 l hl ha).up' [cellsA l] rfl rfl
 have hlen:=bytesA_len l hl ha
 have hlo:20 ≤ (bytesA l).length:=by simp only [bytesA,List.length_append,hdrB_len,numB_len]; omega
 have h85:=(c85 ((bytesA l).drop 2) (by simp; omega) 14).up' [cellsA l] rfl rfl
 rw [sumA]
 generalize bytesA l = b at h59 h85 hlen hlo ⊢
 have z1:(2:Int) ≤ b.length:=by omega
 have z2:2 ≤ b.length:=by omega
 generalize fletch (b.drop 2) 14 = r at h85 ⊢
 simp
 refine ⟨_,_,.inl h59,trivial,?_⟩
 have ht:(b.map enc8).take b.length = b.map enc8:=List.take_of_length_le (by simp)
 simp [z1,z2,ht]
 refine ⟨_,_,.inl (by simpa [cargs] using h85),by simp,?_⟩
 simp
end Go.Proofs.YtapgoboiljjecaaGreatDoor

namespace Go.Proofs.YtapgoboiljjecaaGreatDoor
open Go Go.Am
set_option maxRecDepth 10000 in
theorem c78 (ts:List Int) (hts:ts.length < 1099511627776) (ty:Int) (rest:List AVal) (hr:LeCells 1 rest rest):CFun Tryz.prog 108 [.sl 1 (ts.map encI) .sh,.ptr 0 0] [.int .i64 ty :: rest] (.bool (memL ts ty)) [.int .i64 ty :: rest]:=by
 refine CFun.intro (tr:=[]) (fz:=[]) (n:=9) (rs:=[.tmp 3]) Tryz.func108 rfl (by kernel_rfl) rfl rfl mixed (by kernel_rfl) (by simp) (by simp) ?_
 simp
 refine ⟨_,_,.inl ((c79 ts hts ty).up' _ rfl rfl),by simp,?_⟩
 simpa using hr
def forB (l:Lsa):Bool :=
 if memL [1] l.H.Ty = false ∧ (l.Border = true ∨ l.Boundary = true ∨ 0 < l.Links.length) then true else
 if memL [2] l.H.Ty = false ∧ 0 < l.Att.length then true else
 if memL [3,4,5] l.H.Ty = false ∧ l.Cost ≠ 0 then true else
 !memL [5] l.H.Ty && (l.Second || decide (l.Fwd ≠ 0) || decide (l.Tag ≠ 0))
set_option maxHeartbeats 2000000 in
set_option maxRecDepth 10000 in
theorem c41 (l:Lsa):CFun Tryz.prog 78 [encA l] [] (.bool (forB l)) []:=by
 refine CFun.intro (tr:=[]) (fz:=[]) (n:=63) (rs:=[.tmp 2]) Tryz.func78 rfl (by kernel_rfl) rfl rfl mixed (by kernel_rfl) (by simp) (by simp) ?_
 have h78:∀ (ts:List Int) (rest:List AVal),ts.length < 1099511627776 → LeCells 1 rest rest → CFun Tryz.prog 108 [.sl 1 (ts.map encI) .full,.ptr 0 0] [.int .i64 l.H.Ty :: rest] (.bool (memL ts l.H.Ty)) [.int .i64 l.H.Ty :: rest] :=
   fun ts rest hts hr=>(c78 ts hts l.H.Ty rest hr).wk _ (by simp) ⟨whole,rfl,trivial⟩
 have h1:=fun rest=>h78 [1] rest (by simp)
 have h2:=fun rest=>h78 [2] rest (by simp)
 have h3:=fun rest=>h78 [3,4,5] rest (by simp)
 have h5:=fun rest=>h78 [5] rest (by simp)
 simp only [List.map_cons,List.map_nil,encI] at h1 h2 h3 h5
 rw [forB]
 generalize memL [1] l.H.Ty = m1 at h1 ⊢
 generalize memL [2] l.H.Ty = m2 at h2 ⊢
 generalize memL [3,4,5] l.H.Ty = m3 at h3 ⊢
 generalize memL [5] l.H.Ty = m5 at h5 ⊢
 have hL:(0:Int) < l.Links.length ↔ 0 < l.Links.length:=by omega
 have hT:(0:Int) < l.Att.length ↔ 0 < l.Att.length:=by omega
 simp
 refine ⟨_,_,.inl (h1 _ (by simp)),trivial,?_⟩
 by_cases g1:m1 = false ∧ (l.Border = true ∨ l.Boundary = true ∨ 0 < l.Links.length)
 · obtain ⟨rfl,g⟩:=g1
   by_cases b1:l.Border = true
   · simp [b1]
   · by_cases b2:l.Boundary = true
     · simp [b1,b2]
     · have b3:0 < l.Links.length:=by rcases g with g | g | g <;> first | contradiction | exact g
       simp [b1,b2,hL,b3]
 have step:m1 = true ∨ (m1 = false ∧ l.Border = false ∧ l.Boundary = false ∧ ¬ 0 < l.Links.length):=by
   cases m1
   · right
     refine ⟨rfl,?_,?_,?_⟩
     · cases h:l.Border <;> simp_all
     · cases h:l.Boundary <;> simp_all
     · intro h; exact g1 ⟨rfl,.inr (.inr h)⟩
   · exact .inl rfl
 rcases step with rfl | ⟨rfl,q1,q2,q3⟩
 all_goals first | simp [q1,q2,q3] | simp
 all_goals
   refine ⟨_,_,.inl (h2 _ (by simp)),trivial,?_⟩
   by_cases g2:m2 = false ∧ 0 < l.Att.length
   · simp [g2.1,g2.2]
   have s2:m2 = true ∨ (m2 = false ∧ ¬ 0 < l.Att.length):=by
     cases m2
     · exact .inr ⟨rfl,fun h=>g2 ⟨rfl,h⟩⟩
     · exact .inl rfl
   rcases s2 with rfl | ⟨rfl,r1⟩
   all_goals first | simp [r1] | simp
   all_goals
     refine ⟨_,_,.inl (h3 _ (by simp)),trivial,?_⟩
     by_cases g3:m3 = false ∧ l.Cost ≠ 0
     · simp [g3.1,g3.2]
     have s3:m3 = true ∨ (m3 = false ∧ l.Cost = 0):=by
       cases m3
       · refine .inr ⟨rfl,?_⟩
         by_cases h:l.Cost = 0
         · exact h
         · exact (g3 ⟨rfl,h⟩).elim
       · exact .inl rfl
     rcases s3 with rfl | ⟨rfl,r2⟩
     all_goals first | simp [r2] | simp
     all_goals
       refine ⟨_,_,.inl (h5 _ (by simp)),trivial,?_⟩
       cases m5
       · cases e1:l.Second
         · by_cases e2:l.Fwd = 0
           · by_cases e3:l.Tag = 0 <;> simp [e1,e2,e3]
           · simp [e1,e2]
         · simp [e1]
       · simp
theorem memL1 (a x:Int):memL [a] x = decide (x = a):=by simp [memL]
def chkA (l:Lsa):Int :=
 if chkH l.H ≠ 0 then chkH l.H else if forB l = true then 1 else
 if l.H.Ty = 1 then chkLinks l.Links l.H.Router else if l.H.Ty = 2 then chkAtt l.Att l.H.Router else
 if inR l.Cost 0 16777216 = false ∨ inR l.Tag 0 4294967295 = false then 5 else 0
theorem chkA_len {l:Lsa} (h:chkA l = 0):l.Links.length ≤ 64 ∧ l.Att.length ≤ 64:=by
 unfold chkA at h
 split at h
 · contradiction
 · split at h
   · cases h
   · rename_i h2
     have hL:l.H.Ty ≠ 1 → l.Links.length = 0:=by
       intro hne
       by_cases e:0 < l.Links.length
       · exact (h2 (by simp [forB,memL1,hne,e])).elim
       · omega
     have hA:l.H.Ty ≠ 2 → l.Att.length = 0:=by
       intro hne
       by_cases e:0 < l.Att.length
       · refine (h2 ?_).elim
         unfold forB
         split
         · rfl
         · rw [if_pos ⟨by simp [memL1,hne],e⟩]
       · omega
     split at h
     · rename_i t1
       have:=hA (by omega)
       unfold chkLinks at h
       split at h
       · cases h
       · omega
     · rename_i t1
       have:=hL t1
       split at h
       · unfold chkAtt at h
         split at h
         · cases h
         · omega
       · rename_i t2
         have:=hA t2
         omega
set_option maxHeartbeats 2000000 in
set_option maxRecDepth 10000 in
theorem c13 (l:Lsa):CFun Tryz.prog 27 [encA l] [] (.int .i64 (chkA l)) []:=by
 refine CFun.intro (tr:=[]) (fz:=[]) (n:=41) (rs:=[.tmp 2]) Tryz.func27 rfl (by kernel_rfl) rfl rfl mixed (by kernel_rfl) (by simp) (by simp) ?_
 have h40:=(c40 l.H).up' [cellsA l] rfl rfl
 have h41:=(c41 l).up' [cellsA l] rfl rfl
 have h42:∀ H,CFun Tryz.prog 79 [.sl 4 (l.Links.map encK) .sh,.int .u32 l.H.Router] H (.int .i64 (chkLinks l.Links l.H.Router)) H:=fun H=>(c42 l.Links _ rfl l.H.Router).up' H rfl rfl
 have h43:∀ H,CFun Tryz.prog 80 [.sl 1 (l.Att.map enc32) .sh,.int .u32 l.H.Router] H (.int .i64 (chkAtt l.Att l.H.Router)) H:=fun H=>(c43 l.Att _ rfl l.H.Router).up' H rfl rfl
 have h44:∀ n lo hi H,CFun Tryz.prog 25 [.int .i64 n,.int .i64 lo,.int .i64 hi] H (.bool (inR n lo hi)) H:=fun n lo hi H=>(c44 n lo hi).up' H rfl rfl
 rw [chkA]
 generalize chkLinks l.Links l.H.Router = v42 at h42 ⊢
 generalize chkAtt l.Att l.H.Router = v43 at h43 ⊢
 generalize forB l = v41 at h41 ⊢
 generalize chkH l.H = v40 at h40 ⊢
 simp
 refine ⟨_,_,.inl h40,trivial,?_⟩
 by_cases e0:v40 = 0
 · subst e0
   simp
   refine ⟨_,_,.inl h41,trivial,?_⟩
   cases v41
   · by_cases t1:l.H.Ty = 1
     · simp [t1]
       refine ⟨_,_,.inl (h42 _),trivial,?_⟩
       simp
     · by_cases t2:l.H.Ty = 2
       · simp [t2]
         refine ⟨_,_,.inl (h43 _),trivial,?_⟩
         simp
       · simp [t1,t2]
         refine ⟨_,_,.inl (h44 _ _ _ _),trivial,?_⟩
         cases e1:inR l.Cost 0 16777216
         · simp
         · simp
           refine ⟨_,_,.inl (h44 _ _ _ _),trivial,?_⟩
           cases e2:inR l.Tag 0 4294967295 <;> simp
   · simp
 · simp [e0]
end Go.Proofs.YtapgoboiljjecaaGreatDoor

namespace Go.Proofs.YtapgoboiljjecaaGreatDoor
open Go Go.Am
def sealA (l:Lsa):Lsa:={ l with H:={ l.H with Sum:=sumA l } }
def sealL (l:Lsa):Lsa × Int:=if chkA l ≠ 0 then (⟨⟨0,0,0,0,0,0,0⟩,false,false,[],[],0,false,0,0⟩,chkA l) else (sealA l,0)
def encL (l:Lsa):List Int × Int:=if chkA l ≠ 0 then ([],chkA l) else if l.H.Sum ≠ sumA l then ([],13) else (bytesA l,0)
set_option maxHeartbeats 2000000 in
set_option maxRecDepth 10000 in
theorem c21 (l:Lsa):CFun Tryz.prog 9 [encA l] [] (.tup [encBs (encL l).1,.int .i64 (encL l).2]) []:=by
 refine CFun.intro (tr:=[]) (fz:=[]) (n:=18) (rs:=[.tmp 2,.tmp 3]) Tryz.func9 rfl (by kernel_rfl) rfl rfl mixed (by kernel_rfl) (by simp) (by simp) ?_
 have h13:=(c13 l).up' [cellsA l] rfl rfl
 rw [encL]
 by_cases e:chkA l = 0
 · obtain ⟨hl,ha⟩:=chkA_len e
   have h54:=(c54 l hl ha).up' [cellsA l] rfl rfl
   have h59:=(c59 l hl ha).up' [cellsA l] rfl rfl
   rw [e] at h13
   simp
   refine ⟨_,_,.inl h13,trivial,?_⟩
   simp
   refine ⟨_,_,.inl h54,by simp,?_⟩
   by_cases e2:l.H.Sum = sumA l
   · have b2:(l.H.Sum == sumA l) = true:=by simpa using e2
     have b3:(l.H.Sum != sumA l) = false:=by simp [e2]
     simp [b2,b3]
     refine ⟨_,_,.inl h59,by simp,?_⟩
     simp [e,e2]
   · simp [e,e2]
 · simp
   refine ⟨_,_,.inl h13,trivial,?_⟩
   simp [e]
end Go.Proofs.YtapgoboiljjecaaGreatDoor
