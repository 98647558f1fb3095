/- What is the same is found the same. -/
import Derived.Test.YtapgoboiljjecaaGreatDoorV13
import Derived.Test.YtapgoboiljjecaaGreatDoorAmAI
set_option linter.unusedSimpArgs false
set_option linter.unusedVariables false
namespace Go.Proofs.YtapgoboiljjecaaGreatDoor
open Go Go.Am
set_option linter.unusedSimpArgs false
theorem abytes8 (V:List Int):abytes (V.map enc8) = some V:=abytes_map V
theorem isB_b {b:List Int} (h:isB b):isBytes b = true:=by
 simp only [isBytes,List.all_eq_true,Bool.and_eq_true,decide_eq_true_eq]
 exact h
set_option maxHeartbeats 2000000 in
set_option maxRecDepth 10000 in
theorem t133 (l:List Int) (n:Nat) (hn:l.length = n) (hlen:n < 1099511627776):CFun Tryz.prog 133 [.sl 1 (l.map enc32) .sh,.sl 1 (l.map enc32) .sh] [] (.bool true) []:=by
 refine CFun.intro (tr:=[]) (fz:=[]) (n:=26) (rs:=[.tmp 4]) Tryz.func133 rfl (by kernel_rfl) rfl rfl mixed (by kernel_rfl) (by simp) (by simp) ?_
 simp [hn]
 refine LoopK.intro (tr:=[]) mixed (by kernel_rfl) (fun i:Nat=>[(0,.sl 1 (l.map enc32) .sh),(1,.sl 1 (l.map enc32) .sh),(12,.int .i64 n),(13,.int .i64 i)]) (fun _=>[]) (fun i=>i ≤ n) (fun i=>n - i) 0 ?_ ?_ ?_
 · simp
 · simp
 · rintro i h1
   by_cases hi:i < n
   · obtain ⟨y,hy,hd⟩:=get_drop (l:=l) (i:=i) (by omega)
     obtain ⟨_,gy⟩:=List.getElem?_eq_some_iff.1 hy
     have w1:IntKind.i64.wrap ((i:Int) + 1) = i + 1:=wrap_in (by omega)
     simp [hi,hy,gy,hn,w1]
     exact ⟨i + 1,by omega,by omega,by simp⟩
   · simp [hi]
set_option maxHeartbeats 2000000 in
set_option maxRecDepth 10000 in
theorem t118 (l:List Pre) (n:Nat) (hn:l.length = n) (hlen:n < 1099511627776):CFun Tryz.prog 118 [.sl 2 (l.map encPre) .sh,.sl 2 (l.map encPre) .sh] [] (.bool true) []:=by
 refine CFun.intro (tr:=[]) (fz:=[]) (n:=26) (rs:=[.tmp 4]) Tryz.func118 rfl (by kernel_rfl) rfl rfl mixed (by kernel_rfl) (by simp) (by simp) ?_
 simp [hn]
 refine LoopK.intro (tr:=[]) mixed (by kernel_rfl) (fun i:Nat=>[(0,.sl 2 (l.map encPre) .sh),(1,.sl 2 (l.map encPre) .sh),(12,.int .i64 n),(13,.int .i64 i)]) (fun _=>[]) (fun i=>i ≤ n) (fun i=>n - i) 0 ?_ ?_ ?_
 · simp
 · simp
 · rintro i h1
   by_cases hi:i < n
   · obtain ⟨y,hy,hd⟩:=get_drop (l:=l) (i:=i) (by omega)
     obtain ⟨_,gy⟩:=List.getElem?_eq_some_iff.1 hy
     have w1:IntKind.i64.wrap ((i:Int) + 1) = i + 1:=wrap_in (by omega)
     simp [hi,hy,gy,hn,w1]
     exact ⟨i + 1,by omega,by omega,by simp⟩
   · simp [hi]
set_option maxHeartbeats 4000000 in
set_option maxRecDepth 10000 in
theorem t132 (p:List Seg) (n:Nat) (hn:p.length = n) (hlen:n < 1099511627776) (hA:∀ s ∈ p,s.AS.length ≤ 65535):CFun Tryz.prog 132 [.sl 2 (p.map encSeg) .sh,.sl 2 (p.map encSeg) .sh] [] (.bool true) []:=by
 refine CFun.intro (tr:=[]) (fz:=[]) (n:=71) (rs:=[.tmp 4]) Tryz.func132 rfl (by kernel_rfl) rfl rfl mixed (by kernel_rfl) (by simp) (by simp) ?_
 simp [hn]
 refine LoopK.intro (tr:=[]) mixed (by kernel_rfl) (fun i:Nat=>[(0,.sl 2 (p.map encSeg) .sh),(1,.sl 2 (p.map encSeg) .sh),(13,.int .i64 n),(14,.int .i64 i)]) (fun _=>[]) (fun i=>i ≤ n) (fun i=>n - i) 0 ?_ ?_ ?_
 · simp
 · simp
 · rintro i h1
   by_cases hi:i < n
   · obtain ⟨y,hy,hd⟩:=get_drop (l:=p) (i:=i) (by omega)
     obtain ⟨_,gy⟩:=List.getElem?_eq_some_iff.1 hy
     have hAy:=hA y (List.mem_of_getElem? hy)
     have w1:IntKind.i64.wrap ((i:Int) + 1) = i + 1:=wrap_in (by omega)
     obtain ⟨K,A⟩:=y
     obtain ⟨m,hm⟩:∃ m,A.length = m:=⟨_,rfl⟩
     simp only at hAy
     have hi':(i:Int) < n:=by omega
     simp [hi,hy,gy,hn,hm,hi']
     refine LoopK.intro (tr:=[]) mixed (by kernel_rfl) (fun j:Nat=>[(0,.sl 2 (p.map encSeg) .sh),(1,.sl 2 (p.map encSeg) .sh),(5,.int .i64 i),(13,.int .i64 n),(14,.int .i64 i),(48,.int .i64 m),(49,.int .i64 j)]) (fun _=>[]) (fun j=>j ≤ m) (fun j=>m - j) 0 ?_ ?_ ?_
     · simp
     · simp
     · rintro j j1
       by_cases hj:j < m
       · obtain ⟨x,hx,hd⟩:=get_drop (l:=A) (i:=j) (by omega)
         obtain ⟨_,gx⟩:=List.getElem?_eq_some_iff.1 hx
         have w2:IntKind.i64.wrap ((j:Int) + 1) = j + 1:=wrap_in (by omega)
         have hj':(j:Int) < m:=by omega
         simp [hi,hy,gy,hn,hm,hi',hj,hj',hx,gx,w2]
         exact ⟨j + 1,by omega,by omega,by simp⟩
       · simp [hj,w1]
         exact ⟨i + 1,by omega,by omega,by simp⟩
   · simp [hi]
set_option maxHeartbeats 8000000 in
set_option maxRecDepth 20000 in
theorem t119 (a:Att) (h1:a.Path.length ≤ 65535) (hA:∀ s ∈ a.Path,s.AS.length ≤ 65535) (h2:a.Comm.length ≤ 65535) (h3:a.Clus.length ≤ 65535) (h4:a.Unk.length ≤ 1000000) (h5:∀ t ∈ a.Unk,isB t.Val ∧ t.Val.length ≤ 65535) :
   CFun Tryz.prog 119 [encAt a,encAt a] [] (.bool true) []:=by
 refine CFun.intro (tr:=[]) (fz:=[]) (n:=156) (rs:=[.tmp 4]) Tryz.func119 rfl (by kernel_rfl) rfl rfl mixed (by kernel_rfl) (by simp) (by simp) ?_
 have h132:=fun H=>(t132 a.Path a.Path.length rfl (by omega) hA).up' H rfl rfl
 have h133a:=fun H=>(t133 a.Comm a.Comm.length rfl (by omega)).up' H rfl rfl
 have h133b:=fun H=>(t133 a.Clus a.Clus.length rfl (by omega)).up' H rfl rfl
 obtain ⟨n,hn⟩:∃ n,a.Unk.length = n:=⟨_,rfl⟩
 simp
 refine ⟨_,_,.inl (by simpa using h132 _),by simp,?_⟩
 simp
 refine ⟨_,_,.inl (by simpa using h133a _),by simp,?_⟩
 simp
 refine ⟨_,_,.inl (by simpa using h133b _),by simp,?_⟩
 simp [hn]
 refine LoopK.intro (tr:=[]) mixed (by kernel_rfl) (fun i:Nat=>[(2,.ptr 0 0),(3,.ptr 1 0),(121,.int .i64 n),(122,.int .i64 i)]) (fun _=>[cellsAt a,cellsAt a]) (fun i=>i ≤ n) (fun i=>n - i) 0 ?_ ?_ ?_
 · simp
 · simp
 · rintro i i1
   by_cases hi:i < n
   · obtain ⟨y,hy,hd⟩:=get_drop (l:=a.Unk) (i:=i) (by omega)
     obtain ⟨_,gy⟩:=List.getElem?_eq_some_iff.1 hy
     have w1:IntKind.i64.wrap ((i:Int) + 1) = i + 1:=wrap_in (by omega)
     have hi':(i:Int) < n:=by omega
     obtain ⟨q1,q2⟩:=h5 y (List.mem_of_getElem? hy)
     obtain ⟨K,V⟩:=y
     simp only at q1 q2
     have hV:=isB_b q1
     have hab:=abytes8 V
     simp [hi,hy,gy,hn,hi',hV,hab,w1]
     exact ⟨i + 1,by omega,by omega,by simp⟩
   · simp [hi]
end Go.Proofs.YtapgoboiljjecaaGreatDoor

/- A message is the same as itself; what is used of it. -/
namespace Go.Proofs.YtapgoboiljjecaaGreatDoor
open Go Go.Am
set_option linter.unusedSimpArgs false
structure szAt (a:Att):Prop where
  path:a.Path.length ≤ 65535
  segs:∀ s ∈ a.Path,s.AS.length ≤ 65535
  comm:a.Comm.length ≤ 65535
  clus:a.Clus.length ≤ 65535
  unk:a.Unk.length ≤ 1000000
  vals:∀ t ∈ a.Unk,isB t.Val ∧ t.Val.length ≤ 65535
theorem szAt_0:szAt att0:=⟨by simp [att0],by simp [att0],by simp [att0],by simp [att0],by simp [att0],by simp [att0]⟩
structure szM (m:Msg):Prop where
  caps:m.Caps.length ≤ 65535
  vals:∀ c ∈ m.Caps,isB c.Val ∧ c.Val.length ≤ 255
  wd:m.Wd.length ≤ 65535
  rc:m.Rc.length ≤ 65535
  at_:szAt m.At
  data:isB m.Data
set_option maxHeartbeats 16000000 in
set_option maxRecDepth 20000 in
theorem t90 (m:Msg) (h:szM m):CFun Tryz.prog 90 [encM m,encM m] [] (.bool true) []:=by
 refine CFun.intro (tr:=[]) (fz:=[]) (n:=127) (rs:=[.tmp 4]) Tryz.func90 rfl (by kernel_rfl) rfl rfl mixed (by kernel_rfl) (by simp) (by simp) ?_
 have h118a:=fun H=>(t118 m.Wd m.Wd.length rfl (by have:=h.wd; omega)).up' H rfl rfl
 have h118b:=fun H=>(t118 m.Rc m.Rc.length rfl (by have:=h.rc; omega)).up' H rfl rfl
 have h119:=fun H=>(t119 m.At h.at_.path h.at_.segs h.at_.comm h.at_.clus h.at_.unk h.at_.vals).up' H rfl rfl
 obtain ⟨n,hn⟩:∃ n,m.Caps.length = n:=⟨_,rfl⟩
 have hn2:=h.caps
 have hvals:=h.vals
 have hD:=isB_b h.data
 have hDa:=abytes8 m.Data
 clear h
 obtain ⟨Kind,Ver,AS,Hold,Rtr,Caps,Wd,At,Rc,Code,Sub,Data⟩:=m
 obtain ⟨Origin,Path,Next,HasMED,MED,HasPref,Pref,Atomic,HasAggr,AggrAS,AggrAddr,Comm,HasOrig,Origr,Clus,Unk⟩:=At
 simp only at *
 simp [hn,hD,hDa]
 refine LoopK.intro (tr:=[]) mixed (by kernel_rfl) (fun i:Nat=>[(2,.ptr 0 0),(3,.ptr 1 0),(73,.int .i64 n),(74,.int .i64 i)]) (fun _=>[cellsM ⟨Kind,Ver,AS,Hold,Rtr,Caps,Wd,⟨Origin,Path,Next,HasMED,MED,HasPref,Pref,Atomic,HasAggr,AggrAS,AggrAddr,Comm,HasOrig,Origr,Clus,Unk⟩,Rc,Code,Sub,Data⟩,cellsM ⟨Kind,Ver,AS,Hold,Rtr,Caps,Wd,⟨Origin,Path,Next,HasMED,MED,HasPref,Pref,Atomic,HasAggr,AggrAS,AggrAddr,Comm,HasOrig,Origr,Clus,Unk⟩,Rc,Code,Sub,Data⟩]) (fun i=>i ≤ n) (fun i=>n - i) 0 ?_ ?_ ?_
 · simp
 · simp
 · rintro i i1
   by_cases hi:i < n
   · obtain ⟨y,hy,hd⟩:=get_drop (l:=Caps) (i:=i) (by omega)
     obtain ⟨_,gy⟩:=List.getElem?_eq_some_iff.1 hy
     have w1:IntKind.i64.wrap ((i:Int) + 1) = i + 1:=wrap_in (by omega)
     have hi':(i:Int) < n:=by omega
     obtain ⟨q1,q2⟩:=hvals y (List.mem_of_getElem? hy)
     obtain ⟨K,V⟩:=y
     simp only at q1 q2
     have hV:=isB_b q1
     have hab:=abytes8 V
     simp [hi,hy,gy,hn,hi',hV,hab,w1]
     exact ⟨i + 1,by omega,by omega,by simp⟩
   · simp [hi]
     refine ⟨_,_,.inl (by simpa using h118a _),by simp,?_⟩
     simp
     refine ⟨_,_,.inl (by simpa using h119 _),by simp,?_⟩
     simp
     refine ⟨_,_,.inl (by simpa using h118b _),by simp,?_⟩
     simp
def usedM (m:Msg):Msg :=
 if m.Kind = 1 then { msg0 with Kind:=1,Ver:=m.Ver,AS:=m.AS,Hold:=m.Hold,Rtr:=m.Rtr,Caps:=m.Caps }
 else if m.Kind = 2 then { msg0 with Kind:=2,Wd:=m.Wd,At:=m.At,Rc:=m.Rc }
 else if m.Kind = 3 then { msg0 with Kind:=3,Code:=m.Code,Sub:=m.Sub,Data:=m.Data }
 else { msg0 with Kind:=m.Kind }
set_option maxHeartbeats 16000000 in
set_option maxRecDepth 20000 in
theorem t91 (m:Msg):CFun Tryz.prog 91 [encM m] [] (encM (usedM m)) []:=by
 refine CFun.intro (tr:=[900001000012,900002000012,3500012,900001000029,900002000029,3500029,900001000040,900002000040,3500040]) (fz:=[]) (n:=49) (rs:=[.cell 2 55]) Tryz.func91 rfl (by kernel_rfl) rfl rfl mixed (by kernel_rfl) (by simp) (by simp) ?_
 unfold usedM
 by_cases h1:m.Kind = 1
 · rw [if_pos h1]
   simp [h1,msg0,att0]
 rw [if_neg h1]
 by_cases h2:m.Kind = 2
 · rw [if_pos h2]
   simp [h2,msg0,att0]
 rw [if_neg h2]
 by_cases h3:m.Kind = 3
 · rw [if_pos h3]
   simp [h3,msg0,att0]
 rw [if_neg h3]
 simp [h1,h2,h3,msg0,att0]
end Go.Proofs.YtapgoboiljjecaaGreatDoor

/- Prefixes and capabilities are checked. -/
namespace Go.Proofs.YtapgoboiljjecaaGreatDoor
open Go Go.Am
set_option linter.unusedSimpArgs false
def cmpPre (p q:Pre):Int:=if p.A < q.A ∨ (p.A = q.A ∧ p.N < q.N) then -1 else if p.A = q.A ∧ p.N = q.N then 0 else 1
set_option maxHeartbeats 4000000 in
set_option maxRecDepth 20000 in
theorem t122 (p q:Pre):CFun Tryz.prog 122 [encPre p,encPre q] [] (.int .i64 (cmpPre p q)) []:=by
 refine CFun.intro (tr:=[]) (fz:=[]) (n:=29) (rs:=[.tmp 4]) Tryz.func122 rfl (by kernel_rfl) rfl rfl mixed (by kernel_rfl) (by simp) (by simp) ?_
 obtain ⟨a,n⟩:=p
 obtain ⟨b,m⟩:=q
 unfold cmpPre
 simp only
 by_cases h1:a < b
 · simp [h1]
 by_cases h2:a = b
 · by_cases h3:n < m
   · simp [h1,h2,h3]
   · by_cases h4:n = m <;> simp [h1,h2,h3,h4]
 · simp [h1,h2]
def preAt (l:List Pre) (i:Nat):Pre:=l.getD i ⟨0,0⟩
theorem pre_get {p:List Pre} {i:Nat} (h:i < p.length):p[i]? = some (preAt p i):=by
 simp [preAt,List.getD_eq_getElem?_getD,h]
def prefE1 (l:List Pre) (i:Nat):Int:=if validP (preAt l i).A (preAt l i).N = false then 1 else if 0 < i ∧ cmpPre (preAt l i) (preAt l (i - 1)) ≤ 0 then 16 else 0
def prefE (l:List Pre):Int:=FE (prefE1 l) l.length
set_option maxHeartbeats 4000000 in
set_option maxRecDepth 20000 in
theorem t121 (l:List Pre) (n:Nat) (hn:l.length = n) (hlen:n < 1000000):CFun Tryz.prog 121 [.sl 2 (l.map encPre) .sh] [] (.int .i64 (prefE l)) []:=by
 refine CFun.intro (tr:=[]) (fz:=[]) (n:=30) (rs:=[.tmp 2]) Tryz.func121 rfl (by kernel_rfl) rfl rfl mixed (by kernel_rfl) (by simp) (by simp) ?_
 unfold prefE
 simp [hn]
 refine LoopK.intro (tr:=[]) mixed (by kernel_rfl) (fun i:Nat=>[(0,.sl 2 (l.map encPre) .sh),(5,.sl 2 (l.map encPre) .sh),(6,.int .i64 n),(7,.int .i64 i)]) (fun _=>[]) (fun i=>i ≤ n ∧ ∀ j,j < i → prefE1 l j = 0) (fun i=>n - i) 0 ?_ ?_ ?_
 · simp
 · simp
 · rintro i ⟨i1,i2⟩
   by_cases hi:i < n
   · have hx:prefE1 l i = if validP (preAt l i).A (preAt l i).N = false then 1 else if 0 < i ∧ cmpPre (preAt l i) (preAt l (i - 1)) ≤ 0 then 16 else 0:=rfl
     have g:=pre_get (p:=l) (i:=i) (by omega)
     obtain ⟨_,ga⟩:=List.getElem?_eq_some_iff.1 g
     have hprev:0 < i → ∃ q,l[i - 1]? = some q ∧ preAt l (i - 1) = q:=fun h=>⟨_,pre_get (by omega),rfl⟩
     generalize preAt l i = t at *
     have h77:=fun H=>(c77 t.A t.N).up' H rfl rfl
     have h122:=fun q H=>(t122 t q).up' H rfl rfl
     by_cases hv:validP t.A t.N = false
     · rw [if_pos hv] at hx
       have hf:=FE_at i2 (by omega) hi
       obtain ⟨A,N⟩:=t
       simp only at hv
       simp [hi,g,ga]
       refine ⟨_,_,.inl (by simpa using h77 _),by simp,?_⟩
       simp [hv,hf,hx]
     rw [if_neg hv] at hx
     have hv':validP t.A t.N = true:=by simpa using hv
     by_cases h0:i = 0
     · rw [if_neg (by omega)] at hx
       have i3:=inv_succ i2 hx
       subst h0
       obtain ⟨A,N⟩:=t
       simp only at hv'
       simp [hi,g,ga]
       refine ⟨_,_,.inl (by simpa using h77 _),by simp,?_⟩
       simp [hv',show IntKind.i64.wrap 1 = 1 from rfl]
       exact ⟨1,⟨by omega,i3⟩,by omega,by simp⟩
     obtain ⟨k,rfl⟩:∃ k,i = k + 1:=⟨i - 1,by omega⟩
     obtain ⟨q,gp,hq⟩:=hprev (by omega)
     rw [hq] at hx
     rw [Nat.add_sub_cancel] at gp
     obtain ⟨_,gpa⟩:=List.getElem?_eq_some_iff.1 gp
     have h122':=h122 q
     generalize cmpPre t q = cc at *
     obtain ⟨A,N⟩:=t
     obtain ⟨qA,qN⟩:=q
     simp only at hv'
     have k0:(0:Int) < k + 1:=by omega
     have k00:(0:Int) ≤ k + 1:=by omega
     have kn:(k:Int) + 1 < n:=by omega
     have kn1:(k:Int) < n:=by omega
     have kn2:k < n:=by omega
     have w4:IntKind.i64.wrap (k:Int) = k:=wrap_in (by omega)
     have w5:IntKind.i64.wrap ((k:Int) + 1 + 1) = k + 1 + 1:=wrap_in (by omega)
     simp [hi,hn,g,gp,ga,gpa,k0,k00,kn,kn1,kn2,w4,w5]
     refine ⟨_,_,.inl (by simpa using h77 _),by simp,?_⟩
     simp [hi,hn,g,gp,ga,gpa,k0,k00,kn,kn1,kn2,w4,w5,hv']
     refine ⟨_,_,.inl (by simpa using h122' _),by simp,?_⟩
     by_cases hxy:cc ≤ 0
     · rw [if_pos ⟨by omega,hxy⟩] at hx
       have hf:=FE_at i2 (by omega) hi
       simp [hxy,hf,hx]
     · rw [if_neg (by intro h; exact hxy h.2)] at hx
       have i3:=inv_succ i2 hx
       simp [hxy,w5]
       exact ⟨k + 1 + 1,⟨by omega,i3⟩,by omega,by simp⟩
   · have e:i = n:=by omega
     subst e
     have hf:=FE_zero i2
     simp [hi,hf]
end Go.Proofs.YtapgoboiljjecaaGreatDoor

/- Capabilities are checked. Printed by gen120.py. -/
namespace Go.Proofs.YtapgoboiljjecaaGreatDoor
open Go Go.Am
set_option linter.unusedSimpArgs false
def capAt (l:List Cap) (i:Nat):Cap:=l.getD i ⟨0,[]⟩
theorem cap_get {p:List Cap} {i:Nat} (h:i < p.length):p[i]? = some (capAt p i):=by
 simp [capAt,List.getD_eq_getElem?_getD,h]
def wantC (c:Cap):Nat:=if c.Code = 2 then 0 else if c.Code = 64 then 2 else if c.Code = 65 then 4 else c.Val.length
def capsE1 (asn:Int) (l:List Cap) (i:Nat):Int :=
 if (capAt l i).Code < 1 ∨ 255 < (capAt l i).Code then 5 else if 0 < i ∧ (capAt l i).Code ≤ (capAt l (i - 1)).Code then 16 else
 if (capAt l i).Val.length ≠ wantC (capAt l i) then 1 else if (capAt l i).Code = 65 ∧ (capAt l i).Val ≠ numB 4 (U asn) then 14 else 0
def sizeC (l:List Cap) (i:Nat):Nat:=((l.take i).map fun c=>2 + c.Val.length).sum
def wideC (l:List Cap) (i:Nat):Bool:=(l.take i).any fun c=>decide (c.Code = 65)
def capsE (asn:Int) (l:List Cap):Int :=
 if FE (capsE1 asn l) l.length ≠ 0 then FE (capsE1 asn l) l.length else if 253 < sizeC l l.length then 4 else if 65535 < asn ∧ wideC l l.length = false then 22 else 0
theorem sizeC_succ {l:List Cap} {i:Nat} {c:Cap} (h:l[i]? = some c):sizeC l (i + 1) = sizeC l i + (2 + c.Val.length):=by
 unfold sizeC
 rw [List.take_add_one,h]
 simp
theorem sizeC_le {l:List Cap} (hv:∀ c ∈ l,isB c.Val ∧ c.Val.length ≤ 255):∀ i,i ≤ l.length → sizeC l i ≤ 257 * i
 | 0,_=>by simp [sizeC]
 | i + 1,h=>by
   have g:=cap_get (p:=l) (i:=i) (by omega)
   have:=(hv _ (List.mem_of_getElem? g)).2
   have:=sizeC_le hv i (by omega)
   rw [sizeC_succ g]
   omega
theorem wideC_succ {l:List Cap} {i:Nat} {c:Cap} (h:l[i]? = some c):wideC l (i + 1) = (wideC l i || decide (c.Code = 65)):=by
 unfold wideC
 rw [List.take_add_one,h]
 simp
set_option maxHeartbeats 16000000 in
set_option maxRecDepth 20000 in
theorem t120 (m:Msg) (hsz:m.Caps.length ≤ 65535) (hv:∀ c ∈ m.Caps,isB c.Val ∧ c.Val.length ≤ 255):CFun Tryz.prog 120 [encM m] [] (.int .i64 (capsE m.AS m.Caps)) []:=by
 refine CFun.intro (tr:=[]) (fz:=[]) (n:=90) (rs:=[.tmp 2]) Tryz.func120 rfl (by kernel_rfl) rfl rfl mixed (by kernel_rfl) (by simp) (by simp) ?_
 obtain ⟨n,hn⟩:∃ n,m.Caps.length = n:=⟨_,rfl⟩
 have hput:=fun H=>(put0 4 (by omega) (U m.AS)).up' H rfl rfl
 have hpb:=isB_b (isB_numB 4 (U m.AS))
 have hpa:=abytes8 (numB 4 (U m.AS))
 have hss:=fun (i:Nat) (c:Cap) (h:m.Caps[i]? = some c)=>sizeC_succ h
 have hws:=fun (i:Nat) (c:Cap) (h:m.Caps[i]? = some c)=>wideC_succ h
 have hsl:=fun i h=>sizeC_le hv i h
 have hcg:=fun i h=>cap_get (p:=m.Caps) (i:=i) h
 unfold capsE
 rw [hn] at hsz
 simp only [hn] at hsl hcg ⊢
 obtain ⟨E,hE⟩:∃ E,capsE1 m.AS m.Caps = E:=⟨_,rfl⟩
 have hEx:∀ i,E i = capsE1 m.AS m.Caps i:=fun i=>by rw [hE]
 unfold capsE1 at hEx
 rw [hE]
 obtain ⟨SZ,hSZ⟩:∃ E,sizeC m.Caps = E:=⟨_,rfl⟩
 obtain ⟨WD,hWD⟩:∃ E,wideC m.Caps = E:=⟨_,rfl⟩
 have hS0:SZ 0 = 0:=by rw [← hSZ]; rfl
 have hW0:WD 0 = false:=by rw [← hWD]; rfl
 rw [hSZ] at hss hsl ⊢
 rw [hWD] at hws ⊢
 clear hE hSZ hWD
 generalize hN:numB 4 (U m.AS) = N at *
 simp [hn]
 refine LoopK.intro (tr:=[]) mixed (by kernel_rfl) (fun i:Nat=>[(1,.ptr 0 0),(3,.int .i64 (SZ i:Nat)),(4,.bool (WD i)),(9,.sl 2 (m.Caps.map encCap) .sh),(10,.int .i64 n),(11,.int .i64 i)]) (fun _=>[cellsM m]) (fun i=>i ≤ n ∧ ∀ j,j < i → E j = 0) (fun i=>n - i) 0 ?_ ?_ ?_
 · simp
 · simp [hS0,hW0]
 · rintro i ⟨i1,i2⟩
   by_cases hi:i < n
   · have hx:=hEx i
     have g:=hcg i hi
     obtain ⟨_,ga⟩:=List.getElem?_eq_some_iff.1 g
     have hprev:0 < i → ∃ q,m.Caps[i - 1]? = some q ∧ capAt m.Caps (i - 1) = q:=fun h=>⟨_,hcg _ (by omega),rfl⟩
     have hvi:=hv _ (List.mem_of_getElem? g)
     have hs1:=hss i _ g
     have hw1:=hws i _ g
     have hsi:=hsl i (by omega)
     generalize capAt m.Caps i = t at *
     obtain ⟨K,V⟩:=t
     simp only at hx hvi hs1 hw1
     have hVb:=isB_b hvi.1
     have hVa:=abytes8 V
     have hcast:(i:Int) = 0 ∨ 0 < i:=by omega
     have w1:IntKind.i64.wrap ((i:Int) + 1) = i + 1:=wrap_in (by omega)
     have w2:IntKind.i64.wrap (2 + (V.length:Int)) = 2 + V.length:=wrap_in (by omega)
     have w3:IntKind.i64.wrap ((SZ i:Int) + (2 + V.length)) = SZ i + (2 + V.length):=wrap_in (by omega)
     have w3g:∀ d:Int,0 ≤ d → d ≤ 10 → IntKind.i64.wrap ((SZ i:Int) + d) = SZ i + d:=fun d d1 d2=>wrap_in (by omega)
     have hwant:wantC ⟨K,V⟩ = if K = 2 then 0 else if K = 64 then 2 else if K = 65 then 4 else V.length:=rfl
     rw [hwant] at hx
     have tail:E i = 0 → ∃ j,(j ≤ n ∧ ∀ k,k < j → E k = 0) ∧ n - j < n - i ∧ (SZ j:Int) = SZ i + (2 + V.length) ∧ WD j = (WD i || decide (K = 65)) ∧ (j:Int) = i + 1:=fun h0 =>
       ⟨i + 1,⟨by omega,inv_succ i2 h0⟩,by omega,by rw [hs1]; omega,hw1,by omega⟩
     have FEi:E i ≠ 0 → FE E n = E i:=fun h=>FE_at i2 h hi
     have c0:i = 0 ∨ 0 < i:=by omega
     have cK:K = 2 ∨ K = 64 ∨ K = 65 ∨ (K ≠ 2 ∧ K ≠ 64 ∧ K ≠ 65):=by omega
     rcases cK with hK | hK | hK | ⟨hK2,hK64,hK65⟩
     · subst hK
       rw [if_neg (by omega)] at hx
       rcases c0 with h0 | h0
       · rw [if_neg (by omega)] at hx
         subst h0
         by_cases hl:V.length = 0
         case neg =>
           have hl':¬ (V.length:Int) = 0:=by omega
           rw [if_pos (by simpa using hl)] at hx
           simp [hi,g,ga,hn,w1,w2,w3,show IntKind.i64.wrap 1 = 1 from rfl,hl,hl',FEi (by omega),hx]
         have hl':(V.length:Int) = 0:=by omega
         rw [if_neg (by simpa using hl)] at hx
         rw [if_neg (by intro h; exact absurd h.1 (by omega))] at hx
         obtain ⟨j,j1,j2,j3,j4,j5⟩:=tail hx
         rw [hl'] at w2 w3 j3
         have w2':IntKind.i64.wrap 2 = 2:=rfl
         have w3':=w3g 2 (by omega) (by omega)
         simp [hi,g,ga,hn,w1,w2,w3,show IntKind.i64.wrap 1 = 1 from rfl,hl,hl',w2,w3,w2',w3']
         exact ⟨j,j1,j2,by first | (simp [j3]; done) | (simp [j3]; omega),by simp [j4],by first | (simp [j5]; done) | (simp [j5]; omega)⟩
       · obtain ⟨q,gp,hq⟩:=hprev h0
         rw [hq] at hx
         obtain ⟨k,rfl⟩:∃ k,i = k + 1:=⟨i - 1,by omega⟩
         rw [Nat.add_sub_cancel] at gp
         obtain ⟨_,gpa⟩:=List.getElem?_eq_some_iff.1 gp
         obtain ⟨qK,qV⟩:=q
         simp only at hx
         have k0:(0:Int) < k + 1:=by omega
         have k00:(0:Int) ≤ k + 1:=by omega
         have kn:(k:Int) + 1 < n:=by omega
         have kn1:(k:Int) < n:=by omega
         have kn2:k < n:=by omega
         have w4:IntKind.i64.wrap (k:Int) = k:=wrap_in (by omega)
         have w5:IntKind.i64.wrap ((k:Int) + 1 + 1) = k + 1 + 1:=wrap_in (by omega)
         by_cases ho:(2:Int) ≤ qK
         · rw [if_pos ⟨h0,ho⟩] at hx
           simp [hi,g,ga,hn,w1,w2,w3,gp,gpa,k0,k00,kn,kn1,kn2,w4,w5,ho,FEi (by omega),hx]
         rw [if_neg (by intro h; exact ho h.2)] at hx
         by_cases hl:V.length = 0
         case neg =>
           have hl':¬ (V.length:Int) = 0:=by omega
           rw [if_pos (by simpa using hl)] at hx
           simp [hi,g,ga,hn,w1,w2,w3,gp,gpa,k0,k00,kn,kn1,kn2,w4,w5,ho,hl,hl',FEi (by omega),hx]
         have hl':(V.length:Int) = 0:=by omega
         rw [if_neg (by simpa using hl)] at hx
         rw [if_neg (by intro h; exact absurd h.1 (by omega))] at hx
         obtain ⟨j,j1,j2,j3,j4,j5⟩:=tail hx
         rw [hl'] at w2 w3 j3
         have w2':IntKind.i64.wrap 2 = 2:=rfl
         have w3':=w3g 2 (by omega) (by omega)
         simp [hi,g,ga,hn,w1,w2,w3,gp,gpa,k0,k00,kn,kn1,kn2,w4,w5,ho,hl,hl',w2,w3,w2',w3']
         exact ⟨j,j1,j2,by first | (simp [j3]; done) | (simp [j3]; omega),by simp [j4],by first | (simp [j5]; done) | (simp [j5]; omega)⟩
     · subst hK
       rw [if_neg (by omega)] at hx
       rcases c0 with h0 | h0
       · rw [if_neg (by omega)] at hx
         subst h0
         by_cases hl:V.length = 2
         case neg =>
           have hl':¬ (V.length:Int) = 2:=by omega
           rw [if_pos (by simpa using hl)] at hx
           simp [hi,g,ga,hn,w1,w2,w3,show IntKind.i64.wrap 1 = 1 from rfl,hl,hl',FEi (by omega),hx]
         have hl':(V.length:Int) = 2:=by omega
         rw [if_neg (by simpa using hl)] at hx
         rw [if_neg (by intro h; exact absurd h.1 (by omega))] at hx
         obtain ⟨j,j1,j2,j3,j4,j5⟩:=tail hx
         rw [hl'] at w2 w3 j3
         have w2':IntKind.i64.wrap 4 = 4:=rfl
         have w3':=w3g 4 (by omega) (by omega)
         simp [hi,g,ga,hn,w1,w2,w3,show IntKind.i64.wrap 1 = 1 from rfl,hl,hl',w2,w3,w2',w3']
         exact ⟨j,j1,j2,by first | (simp [j3]; done) | (simp [j3]; omega),by simp [j4],by first | (simp [j5]; done) | (simp [j5]; omega)⟩
       · obtain ⟨q,gp,hq⟩:=hprev h0
         rw [hq] at hx
         obtain ⟨k,rfl⟩:∃ k,i = k + 1:=⟨i - 1,by omega⟩
         rw [Nat.add_sub_cancel] at gp
         obtain ⟨_,gpa⟩:=List.getElem?_eq_some_iff.1 gp
         obtain ⟨qK,qV⟩:=q
         simp only at hx
         have k0:(0:Int) < k + 1:=by omega
         have k00:(0:Int) ≤ k + 1:=by omega
         have kn:(k:Int) + 1 < n:=by omega
         have kn1:(k:Int) < n:=by omega
         have kn2:k < n:=by omega
         have w4:IntKind.i64.wrap (k:Int) = k:=wrap_in (by omega)
         have w5:IntKind.i64.wrap ((k:Int) + 1 + 1) = k + 1 + 1:=wrap_in (by omega)
         by_cases ho:(64:Int) ≤ qK
         · rw [if_pos ⟨h0,ho⟩] at hx
           simp [hi,g,ga,hn,w1,w2,w3,gp,gpa,k0,k00,kn,kn1,kn2,w4,w5,ho,FEi (by omega),hx]
         rw [if_neg (by intro h; exact ho h.2)] at hx
         by_cases hl:V.length = 2
         case neg =>
           have hl':¬ (V.length:Int) = 2:=by omega
           rw [if_pos (by simpa using hl)] at hx
           simp [hi,g,ga,hn,w1,w2,w3,gp,gpa,k0,k00,kn,kn1,kn2,w4,w5,ho,hl,hl',FEi (by omega),hx]
         have hl':(V.length:Int) = 2:=by omega
         rw [if_neg (by simpa using hl)] at hx
         rw [if_neg (by intro h; exact absurd h.1 (by omega))] at hx
         obtain ⟨j,j1,j2,j3,j4,j5⟩:=tail hx
         rw [hl'] at w2 w3 j3
         have w2':IntKind.i64.wrap 4 = 4:=rfl
         have w3':=w3g 4 (by omega) (by omega)
         simp [hi,g,ga,hn,w1,w2,w3,gp,gpa,k0,k00,kn,kn1,kn2,w4,w5,ho,hl,hl',w2,w3,w2',w3']
         exact ⟨j,j1,j2,by first | (simp [j3]; done) | (simp [j3]; omega),by simp [j4],by first | (simp [j5]; done) | (simp [j5]; omega)⟩
     · subst hK
       rw [if_neg (by omega)] at hx
       rcases c0 with h0 | h0
       · rw [if_neg (by omega)] at hx
         subst h0
         by_cases hl:V.length = 4
         case neg =>
           have hl':¬ (V.length:Int) = 4:=by omega
           rw [if_pos (by simpa using hl)] at hx
           simp [hi,g,ga,hn,w1,w2,w3,show IntKind.i64.wrap 1 = 1 from rfl,hl,hl',FEi (by omega),hx]
         have hl':(V.length:Int) = 4:=by omega
         rw [if_neg (by simpa using hl)] at hx
         simp [hi,g,ga,hn,w1,w2,w3,show IntKind.i64.wrap 1 = 1 from rfl,hl,hl',hVb,hVa]
         refine ⟨_,_,.inl (by simpa using hput _),by simp,?_⟩
         by_cases hVN:V = N
         case neg =>
           rw [if_pos (by simp [hVN])] at hx
           simp [hi,g,ga,hn,w1,w2,w3,show IntKind.i64.wrap 1 = 1 from rfl,hl,hl',hVb,hVa,hpb,hpa,hVN,FEi (by omega),hx]
         rw [if_neg (by intro h; exact h.2 hVN)] at hx
         subst hVN
         obtain ⟨j,j1,j2,j3,j4,j5⟩:=tail hx
         rw [hl'] at w2 w3 j3
         have w2':IntKind.i64.wrap 6 = 6:=rfl
         have w3':=w3g 6 (by omega) (by omega)
         simp [hi,g,ga,hn,w1,w2,w3,show IntKind.i64.wrap 1 = 1 from rfl,hl,hl',hVb,hVa,hpb,hpa,w2,w3,w2',w3']
         exact ⟨j,j1,j2,by first | (simp [j3]; done) | (simp [j3]; omega),by simp [j4],by first | (simp [j5]; done) | (simp [j5]; omega)⟩
       · obtain ⟨q,gp,hq⟩:=hprev h0
         rw [hq] at hx
         obtain ⟨k,rfl⟩:∃ k,i = k + 1:=⟨i - 1,by omega⟩
         rw [Nat.add_sub_cancel] at gp
         obtain ⟨_,gpa⟩:=List.getElem?_eq_some_iff.1 gp
         obtain ⟨qK,qV⟩:=q
         simp only at hx
         have k0:(0:Int) < k + 1:=by omega
         have k00:(0:Int) ≤ k + 1:=by omega
         have kn:(k:Int) + 1 < n:=by omega
         have kn1:(k:Int) < n:=by omega
         have kn2:k < n:=by omega
         have w4:IntKind.i64.wrap (k:Int) = k:=wrap_in (by omega)
         have w5:IntKind.i64.wrap ((k:Int) + 1 + 1) = k + 1 + 1:=wrap_in (by omega)
         by_cases ho:(65:Int) ≤ qK
         · rw [if_pos ⟨h0,ho⟩] at hx
           simp [hi,g,ga,hn,w1,w2,w3,gp,gpa,k0,k00,kn,kn1,kn2,w4,w5,ho,FEi (by omega),hx]
         rw [if_neg (by intro h; exact ho h.2)] at hx
         by_cases hl:V.length = 4
         case neg =>
           have hl':¬ (V.length:Int) = 4:=by omega
           rw [if_pos (by simpa using hl)] at hx
           simp [hi,g,ga,hn,w1,w2,w3,gp,gpa,k0,k00,kn,kn1,kn2,w4,w5,ho,hl,hl',FEi (by omega),hx]
         have hl':(V.length:Int) = 4:=by omega
         rw [if_neg (by simpa using hl)] at hx
         simp [hi,g,ga,hn,w1,w2,w3,gp,gpa,k0,k00,kn,kn1,kn2,w4,w5,ho,hl,hl',hVb,hVa]
         refine ⟨_,_,.inl (by simpa using hput _),by simp,?_⟩
         by_cases hVN:V = N
         case neg =>
           rw [if_pos (by simp [hVN])] at hx
           simp [hi,g,ga,hn,w1,w2,w3,gp,gpa,k0,k00,kn,kn1,kn2,w4,w5,ho,hl,hl',hVb,hVa,hpb,hpa,hVN,FEi (by omega),hx]
         rw [if_neg (by intro h; exact h.2 hVN)] at hx
         subst hVN
         obtain ⟨j,j1,j2,j3,j4,j5⟩:=tail hx
         rw [hl'] at w2 w3 j3
         have w2':IntKind.i64.wrap 6 = 6:=rfl
         have w3':=w3g 6 (by omega) (by omega)
         simp [hi,g,ga,hn,w1,w2,w3,gp,gpa,k0,k00,kn,kn1,kn2,w4,w5,ho,hl,hl',hVb,hVa,hpb,hpa,w2,w3,w2',w3']
         exact ⟨j,j1,j2,by first | (simp [j3]; done) | (simp [j3]; omega),by simp [j4],by first | (simp [j5]; done) | (simp [j5]; omega)⟩
     · rw [if_neg hK2,if_neg hK64,if_neg hK65] at hx
       by_cases k1:K < 1
       · rw [if_pos (.inl k1)] at hx
         simp [hi,g,ga,hn,w1,w2,w3,hK2,hK64,hK65,k1,FEi (by omega),hx]
       by_cases k2:255 < K
       · rw [if_pos (.inr k2)] at hx
         simp [hi,g,ga,hn,w1,w2,w3,hK2,hK64,hK65,k1,k2,FEi (by omega),hx]
       rw [if_neg (by omega)] at hx
       rcases c0 with h0 | h0
       · rw [if_neg (by omega)] at hx
         subst h0
         rw [if_neg (by simp)] at hx
         rw [if_neg (by intro h; exact absurd h.1 (by omega))] at hx
         obtain ⟨j,j1,j2,j3,j4,j5⟩:=tail hx
         simp [hi,g,ga,hn,w1,w2,w3,hK2,hK64,hK65,k1,k2,show IntKind.i64.wrap 1 = 1 from rfl]
         exact ⟨j,j1,j2,by first | (simp [j3]; done) | (simp [j3]; omega),by first | (simp [j4]; done) | simp [j4,hK65],by first | (simp [j5]; done) | (simp [j5]; omega)⟩
       · obtain ⟨q,gp,hq⟩:=hprev h0
         rw [hq] at hx
         obtain ⟨k,rfl⟩:∃ k,i = k + 1:=⟨i - 1,by omega⟩
         rw [Nat.add_sub_cancel] at gp
         obtain ⟨_,gpa⟩:=List.getElem?_eq_some_iff.1 gp
         obtain ⟨qK,qV⟩:=q
         simp only at hx
         have k0:(0:Int) < k + 1:=by omega
         have k00:(0:Int) ≤ k + 1:=by omega
         have kn:(k:Int) + 1 < n:=by omega
         have kn1:(k:Int) < n:=by omega
         have kn2:k < n:=by omega
         have w4:IntKind.i64.wrap (k:Int) = k:=wrap_in (by omega)
         have w5:IntKind.i64.wrap ((k:Int) + 1 + 1) = k + 1 + 1:=wrap_in (by omega)
         by_cases ho:K ≤ qK
         · rw [if_pos ⟨h0,ho⟩] at hx
           simp [hi,g,ga,hn,w1,w2,w3,hK2,hK64,hK65,k1,k2,gp,gpa,k0,k00,kn,kn1,kn2,w4,w5,ho,FEi (by omega),hx]
         rw [if_neg (by intro h; exact ho h.2)] at hx
         rw [if_neg (by simp)] at hx
         rw [if_neg (by intro h; exact absurd h.1 (by omega))] at hx
         obtain ⟨j,j1,j2,j3,j4,j5⟩:=tail hx
         simp [hi,g,ga,hn,w1,w2,w3,hK2,hK64,hK65,k1,k2,gp,gpa,k0,k00,kn,kn1,kn2,w4,w5,ho]
         exact ⟨j,j1,j2,by first | (simp [j3]; done) | (simp [j3]; omega),by first | (simp [j4]; done) | simp [j4,hK65],by first | (simp [j5]; done) | (simp [j5]; omega)⟩
   · have e:i = n:=by omega
     subst e
     have hf:=FE_zero i2
     have hsi:=hsl i (by omega)
     by_cases h253:253 < SZ i
     · have h253':(253:Int) < SZ i:=by omega
       simp [hi,hf,h253,h253']
     have h253':¬ (253:Int) < SZ i:=by omega
     by_cases has:65535 < m.AS
     · cases hw:WD i <;> simp [hi,hf,h253,h253',has,hw]
     · simp [hi,hf,h253,h253',has]
end Go.Proofs.YtapgoboiljjecaaGreatDoor

/- Messages are checked. -/
namespace Go.Proofs.YtapgoboiljjecaaGreatDoor
open Go Go.Am
set_option linter.unusedSimpArgs false
def openE (m:Msg):Int :=
 if m.Ver ≠ 4 then 12 else if m.AS < 1 ∨ 4294967295 < m.AS then 5 else if m.Hold ≠ 0 ∧ (m.Hold < 3 ∨ 65535 < m.Hold) then 21 else if m.Rtr = 0 then 1 else capsE m.AS m.Caps
set_option maxHeartbeats 8000000 in
set_option maxRecDepth 20000 in
theorem t92 (m:Msg) (hsz:m.Caps.length ≤ 65535) (hv:∀ c ∈ m.Caps,isB c.Val ∧ c.Val.length ≤ 255):CFun Tryz.prog 92 [encM m] [] (.int .i64 (openE m)) []:=by
 refine CFun.intro (tr:=[]) (fz:=[]) (n:=36) (rs:=[.tmp 2]) Tryz.func92 rfl (by kernel_rfl) rfl rfl mixed (by kernel_rfl) (by simp) (by simp) ?_
 have h120:=fun H=>(t120 m hsz hv).up' H rfl rfl
 unfold openE
 generalize capsE m.AS m.Caps = e at *
 by_cases h1:m.Ver = 4
 case neg=>simp [h1]
 by_cases h2:m.AS < 1
 · simp [h1,h2]
 by_cases h3:4294967295 < m.AS
 · simp [h1,h2,h3]
 by_cases h4:m.Hold = 0
 · by_cases h7:m.Rtr = 0
   · simp [h1,h2,h3,h4,h7]
   · simp [h1,h2,h3,h4,h7]
     refine ⟨_,_,.inl (by simpa [h1,h4] using h120 _),by simp,?_⟩
     simp
 by_cases h5:m.Hold < 3
 · simp [h1,h2,h3,h4,h5]
 by_cases h6:65535 < m.Hold
 · simp [h1,h2,h3,h4,h5,h6]
 by_cases h7:m.Rtr = 0
 · simp [h1,h2,h3,h4,h5,h6,h7]
 · simp [h1,h2,h3,h4,h5,h6,h7]
   refine ⟨_,_,.inl (by simpa [h1] using h120 _),by simp,?_⟩
   simp
def advK (rc:List Pre) (p:Pre) (k:Nat):Nat:=if k < rc.length ∧ cmpPre (preAt rc k) p < 0 then advK rc p (k + 1) else k
termination_by rc.length - k
def ovE (rc:List Pre):List Pre → Nat → Int
 | [],_=>0
 | p :: ps,k=>if advK rc p k < rc.length ∧ (preAt rc (advK rc p k)).A = p.A ∧ (preAt rc (advK rc p k)).N = p.N then 7 else ovE rc ps (advK rc p k)
def updE (m:Msg):Int :=
 if prefE m.Wd ≠ 0 then prefE m.Wd else if prefE m.Rc ≠ 0 then prefE m.Rc else if ovE m.Rc m.Wd 0 ≠ 0 then ovE m.Rc m.Wd 0 else if 0 < m.Rc.length then chkAt m.At else 0
theorem zAt_le:All2 LeS [encAt att0,.agg [.int .i64 0,.sl 0 [] .full,.int .u32 0,.bool false,.int .i64 0,.bool false,.int .i64 0,.bool false,.bool false,.int .i64 0,.int .u32 0,.sl 0 [] .full,.bool false,.int .u32 0,.sl 0 [] .full,.sl 0 [] .full]] [encAt att0,encAt att0]:=by
 simp [att0,All2,LeS,LeC]
set_option maxHeartbeats 16000000 in
set_option maxRecDepth 20000 in
theorem t93 (m:Msg) (h:szM m) (hz:m.Rc ≠ [] ∨ m.At = att0):CFun Tryz.prog 93 [encM m] [] (.int .i64 (updE m)) []:=by
 refine CFun.intro (tr:=[]) (fz:=[]) (n:=71) (rs:=[.tmp 2]) Tryz.func93 rfl (by kernel_rfl) rfl rfl mixed (by kernel_rfl) (by simp) (by simp) ?_
 obtain ⟨n,hn⟩:∃ n,m.Wd.length = n:=⟨_,rfl⟩
 obtain ⟨r,hr⟩:∃ r,m.Rc.length = r:=⟨_,rfl⟩
 have hn2:=h.wd
 have hr2:=h.rc
 rw [hn] at hn2
 rw [hr] at hr2
 have h121a:=fun H=>(t121 m.Wd n hn (by omega)).up' H rfl rfl
 have h121b:=fun H=>(t121 m.Rc r hr (by omega)).up' H rfl rfl
 have h42:=fun H=>(t42 m.At h.at_.segs).up' H rfl rfl
 have h119:=fun H=>((t119 att0 szAt_0.path szAt_0.segs szAt_0.comm szAt_0.clus szAt_0.unk szAt_0.vals).wk _ (by simp [att0]) zAt_le).up' H rfl rfl
 have hz':¬ 0 < r → m.At = att0:=fun h0=>hz.resolve_left (by intro e; exact e (List.eq_nil_of_length_eq_zero (by omega)))
 clear h hz
 unfold updE
 rw [hr]
 generalize prefE m.Wd = e1 at *
 generalize prefE m.Rc = e2 at *
 generalize chkAt m.At = e3 at *
 simp
 refine ⟨_,_,.inl (by simpa using h121a _),by simp,?_⟩
 by_cases he1:e1 = 0
 case neg=>simp [he1]
 simp [he1]
 refine ⟨_,_,.inl (by simpa using h121b _),by simp,?_⟩
 by_cases he2:e2 = 0
 case neg=>simp [he2]
 simp [he2,hn]
 obtain ⟨R,hR⟩:∃ R,ovE m.Rc m.Wd 0 = R:=⟨_,rfl⟩
 rw [hR]
 refine LoopK.intro (tr:=[]) mixed (by kernel_rfl) (fun s:Nat × Nat=>[(1,.ptr 0 0),(5,.int .i64 s.2),(21,.sl 2 (m.Wd.map encPre) .sh),(22,.int .i64 n),(23,.int .i64 s.1)]) (fun _=>[cellsM m]) (fun s=>s.1 ≤ n ∧ s.2 ≤ r ∧ ovE m.Rc (m.Wd.drop s.1) s.2 = R) (fun s=>n - s.1) (0,0) ?_ ?_ ?_
 · simp [hR]
 · simp
 · rintro ⟨i,k⟩ ⟨i1,i2,i3⟩
   simp only at i1 i2 i3
   by_cases hi:i < n
   · obtain ⟨p,hp,hd⟩:=get_drop (l:=m.Wd) (i:=i) (by omega)
     obtain ⟨_,gp⟩:=List.getElem?_eq_some_iff.1 hp
     have w1:IntKind.i64.wrap ((i:Int) + 1) = i + 1:=wrap_in (by omega)
     rw [hd,ovE,hr] at i3
     have h122:=fun q H=>(t122 q p).up' H rfl rfl
     obtain ⟨A,N⟩:=p
     simp only at i3
     have hi':(i:Int) < n:=by omega
     obtain ⟨K,hK⟩:∃ K,advK m.Rc ⟨A,N⟩ k = K:=⟨_,rfl⟩
     rw [hK] at i3
     simp [hi,hp,gp,hn,hi']
     refine LoopK.intro (tr:=[]) mixed (by kernel_rfl) (fun j:Nat=>[(1,.ptr 0 0),(5,.int .i64 j),(7,.ptr 1 0),(21,.sl 2 (m.Wd.map encPre) .sh),(22,.int .i64 n),(23,.int .i64 i)]) (fun _=>[cellsM m,[.int .u32 A,.int .i64 N]]) (fun j=>j ≤ r ∧ advK m.Rc ⟨A,N⟩ j = K) (fun j=>r - j) k ?_ ?_ ?_
     · exact ⟨i2,hK⟩
     · simp
     · rintro j ⟨j1,j2⟩
       have w2:IntKind.i64.wrap ((j:Int) + 1) = j + 1:=wrap_in (by omega)
       rw [advK,hr] at j2
       by_cases hj:j < r
       · have g:=pre_get (p:=m.Rc) (i:=j) (by omega)
         obtain ⟨_,gq⟩:=List.getElem?_eq_some_iff.1 g
         have h122':=h122 (preAt m.Rc j)
         have hpj:preAt m.Rc j = preAt m.Rc j:=rfl
         generalize hq:preAt m.Rc j = q at *
         have hj':(j:Int) < r:=by omega
         generalize cmpPre q ⟨A,N⟩ = cc at *
         simp [hr,hj,hj',g,gq]
         refine ⟨_,_,.inl (by simpa using h122' _),by simp,?_⟩
         by_cases hc:cc < 0
         · rw [if_pos ⟨hj,hc⟩] at j2
           simp [hc,w2]
           exact ⟨j + 1,⟨by omega,j2⟩,by omega,by simp⟩
         · rw [if_neg (by intro h; exact hc h.2)] at j2
           subst j2
           rw [hq] at i3
           obtain ⟨qA,qN⟩:=q
           simp only at i3
           by_cases hA:qA = A
           · by_cases hN:qN = N
             · rw [if_pos ⟨hj,hA,hN⟩] at i3
               simp [hc,hr,hj,hj',g,gq,hA,hN,← i3]
             · rw [if_neg (by intro h; exact hN h.2.2)] at i3
               simp [hc,hr,hj,hj',g,gq,hA,hN,w1]
               exact ⟨i + 1,j,⟨by omega,by omega,i3⟩,by omega,by simp⟩
           · rw [if_neg (by intro h; exact hA h.2.1)] at i3
             simp [hc,hr,hj,hj',g,gq,hA,w1]
             exact ⟨i + 1,j,⟨by omega,by omega,i3⟩,by omega,by simp⟩
       · rw [if_neg (by intro h; exact hj h.1)] at j2
         subst j2
         have hj':¬ (j:Int) < r:=by omega
         rw [if_neg (by intro h; exact hj h.1)] at i3
         simp [hr,hj,hj',w1]
         exact ⟨i + 1,j,⟨by omega,by omega,i3⟩,by omega,by simp⟩
   · have e:m.Wd.drop i = []:=List.drop_of_length_le (by omega)
     rw [e,ovE] at i3
     subst i3
     by_cases h0:0 < r
     · have h0':(0:Int) < r:=by omega
       simp [hi,hr,h0,h0']
       refine ⟨_,_,.inl (by simpa using h42 _),by simp,?_⟩
       simp
     · have h0':¬ (0:Int) < r:=by omega
       have hAt:=hz' h0
       obtain ⟨Kind,Ver,AS,Hold,Rtr,Caps,Wd,At,Rc,Code,Sub,Data⟩:=m
       simp only at hAt
       subst hAt
       simp [hi,hr,h0,h0']
       refine ⟨_,_,.inl (by simpa using h119 _),by simp,?_⟩
       simp
end Go.Proofs.YtapgoboiljjecaaGreatDoor

/- Messages are checked: Check. -/
namespace Go.Proofs.YtapgoboiljjecaaGreatDoor
open Go Go.Am
set_option linter.unusedSimpArgs false
def noteE (m:Msg):Int:=if m.Code < 1 ∨ 6 < m.Code ∨ m.Sub < 0 ∨ 255 < m.Sub then 5 else if 65514 < m.Data.length then 4 else 0
def chkM (m:Msg):Int:=if m.Kind < 1 ∨ 5 < m.Kind then 15 else if m.Kind = 1 then openE m else if m.Kind = 2 then updE m else if m.Kind = 3 then noteE m else 0
structure okC (m:Msg):Prop where
  sz:szM m
  used:usedM m = m
  at_:m.Rc ≠ [] ∨ m.At = att0
set_option maxHeartbeats 16000000 in
set_option maxRecDepth 20000 in
theorem t35 (m:Msg) (h:okC m):CFun Tryz.prog 35 [encM m] [] (.int .i64 (chkM m)) []:=by
 refine CFun.intro (tr:=[]) (fz:=[]) (n:=52) (rs:=[.tmp 2]) Tryz.func35 rfl (by kernel_rfl) rfl rfl mixed (by kernel_rfl) (by simp) (by simp) ?_
 have h91:=fun H=>(t91 m).up' H rfl rfl
 rw [h.used] at h91
 have h90:=fun H=>(t90 m h.sz).up' H rfl rfl
 have h92:=fun H=>(t92 m h.sz.caps h.sz.vals).up' H rfl rfl
 have h93:=fun H=>(t93 m h.sz h.at_).up' H rfl rfl
 clear h
 unfold chkM noteE
 generalize openE m = e1 at *
 generalize updE m = e2 at *
 obtain ⟨dl,hdl⟩:∃ d,m.Data.length = d:=⟨_,rfl⟩
 by_cases k1:m.Kind < 1
 · simp [k1]
 by_cases k5:5 < m.Kind
 · simp [k1,k5]
 simp [k1,k5]
 refine ⟨_,_,.inl (by simpa using h91 _),by simp,?_⟩
 simp
 refine ⟨_,_,.inl (by simpa using h90 _),by simp,?_⟩
 by_cases q1:m.Kind = 1
 · simp [q1]
   refine ⟨_,_,.inl (by simpa [q1] using h92 _),by simp,?_⟩
   simp
 by_cases q2:m.Kind = 2
 · simp [q2]
   refine ⟨_,_,.inl (by simpa [q2] using h93 _),by simp,?_⟩
   simp
 by_cases q3:m.Kind = 3
 case neg=>simp [q1,q2,q3]
 by_cases c1:m.Code < 1
 · simp [q3,c1]
 by_cases c2:6 < m.Code
 · simp [q3,c1,c2]
 by_cases c3:m.Sub < 0
 · simp [q3,c1,c2,c3]
 by_cases c4:255 < m.Sub
 · simp [q3,c1,c2,c3,c4]
 by_cases c5:65514 < dl
 · have c5':(65514:Int) < dl:=by omega
   simp [q3,c1,c2,c3,c4,hdl,c5,c5']
 · have c5':¬ (65514:Int) < dl:=by omega
   simp [q3,c1,c2,c3,c4,hdl,c5,c5']
end Go.Proofs.YtapgoboiljjecaaGreatDoor

/- The readers of messages. -/
namespace Go.Proofs.YtapgoboiljjecaaGreatDoor
open Go Go.Am
set_option linter.unusedSimpArgs false
theorem take_len {b:List Int} {m:Nat} (h:b.length = m):(b.map enc8).take m = b.map enc8:=List.take_of_length_le (by simp [h])
set_option maxHeartbeats 4000000 in
set_option maxRecDepth 20000 in
theorem t84 (b:List Int) (hb:isB b) (hlen:b.length ≤ 1000000) (n:Nat) (hn:n ≤ 4) (h:n ≤ b.length) (rest:List AVal) (hc:LeCells 1 rest rest) :
   CFun Tryz.prog 84 [.ptr 0 0,.int .i64 n] [encBs b :: rest] (.int .i64 (numAt b 0 n)) [encBs (b.drop n) :: rest]:=by
 refine CFun.intro (tr:=[]) (fz:=[]) (n:=27) (rs:=[.tmp 4]) Tryz.func84 rfl (by kernel_rfl) rfl rfl mixed (by kernel_rfl) (by simp) (by simp) ?_
 have h31:=fun H=>(c93 b hb (by omega) 0 n (by omega) (by omega)).up' H rfl rfl
 rw [if_pos (by omega)] at h31
 have h2:=numAt_in hb 0 n
 have h3:(256:Int) ^ n ≤ 4294967296:=by
   have:n = 0 ∨ n = 1 ∨ n = 2 ∨ n = 3 ∨ n = 4:=by omega
   rcases this with rfl | rfl | rfl | rfl | rfl <;> decide
 have w:IntKind.i64.wrap (numAt b 0 n) = numAt b 0 n:=wrap_in (by omega)
 obtain ⟨m,hm⟩:∃ m,b.length = m:=⟨_,rfl⟩
 have hn':(n:Int) ≤ m:=by omega
 have hnm:n ≤ m:=by omega
 have htk:=take_len hm
 generalize numAt b 0 n = x at *
 simp
 refine ⟨_,_,.inl (by simpa using h31 _),by simp,?_⟩
 simp [hm,hn',hnm,htk,w,hc]
set_option maxRecDepth 20000 in
theorem t85 (b:List Int) (n:Int) (rest:List AVal) (hc:LeCells 1 rest rest) :
   CFun Tryz.prog 85 [.ptr 0 0,.int .i64 n] [encBs b :: rest] (.bool (decide (n ≤ b.length))) [encBs b :: rest]:=by
 refine CFun.intro (tr:=[]) (fz:=[]) (n:=12) (rs:=[.tmp 4]) Tryz.func85 rfl (by kernel_rfl) rfl rfl mixed (by kernel_rfl) (by simp) (by simp) ?_
 simp [hc]
set_option maxHeartbeats 4000000 in
set_option maxRecDepth 20000 in
theorem t88 (b:List Int) (hlen:b.length ≤ 1000000) (n:Nat) (h:n ≤ b.length) (rest:List AVal) (hc:LeCells 1 rest rest) :
   CFun Tryz.prog 88 [.ptr 0 0,.int .i64 n] [encBs b :: rest] (.sl 1 ((b.take n).map enc8) .sh) [encBs (b.drop n) :: rest]:=by
 refine CFun.intro (tr:=[]) (fz:=[]) (n:=24) (rs:=[.tmp 4]) Tryz.func88 rfl (by kernel_rfl) rfl rfl mixed (by kernel_rfl) (by simp) (by simp) ?_
 obtain ⟨m,hm⟩:∃ m,b.length = m:=⟨_,rfl⟩
 have hn':(n:Int) ≤ m:=by omega
 have hnm:n ≤ m:=by omega
 have htk:=take_len hm
 have hmn:min n m = n:=by omega
 have s1:n ≤ 140737488355328:=by omega
 simp [hm,hn',hnm,htk,hc,hmn,s1]
end Go.Proofs.YtapgoboiljjecaaGreatDoor

/- Capabilities are read. -/
namespace Go.Proofs.YtapgoboiljjecaaGreatDoor
open Go Go.Am
set_option linter.unusedSimpArgs false
structure AnyJ (a n:Nat) (vl:Nat → AVal) (lv:(Nat → Bool) → Nat → Bool) (hp:(Nat → Bool) → List (List AVal)) (D:(Nat → Bool) → Prop) (t0:Nat → AVal) (l:Nat → Bool) (s:ASt):Prop where
  t0:∀ k,k < a ∨ a + n ≤ k → s.t k = t0 k
  val:∀ k,k < n → l k = true → lv l k = true → s.t (a + k) = vl k
  H:s.H = hp l
  d:D l
section
variable {a n:Nat} {vl:Nat → AVal} {lv:(Nat → Bool) → Nat → Bool} {hp:(Nat → Bool) → List (List AVal)} {D:(Nat → Bool) → Prop} {t0:Nat → AVal} {l:Nat → Bool} {s:ASt}
theorem AnyJ.put (h:AnyJ a n vl lv hp D t0 l s) (hm:∀ l i k,lv (fun j=>if j = i then true else l j) k = true → lv l k = true) (i:Nat) (hi:i < n) {v:AVal} {d:Nat} {H':List (List AVal)} (hd:d = a + i) (hv:v = vl i) (hH:hp (fun j=>if j = i then true else l j) = H') (hD:D fun j=>if j = i then true else l j):AnyJ a n vl lv hp D t0 (fun j=>if j = i then true else l j) ⟨upd s.t d v,H'⟩:=by
 subst hd hv
 refine ⟨fun k hk=>?_,fun k hk hl hlv=>?_,hH.symm,hD⟩
 · show upd s.t (a + i) (vl i) k = _
   unfold upd
   rw [if_neg (by omega)]
   exact h.t0 k hk
 · show upd s.t (a + i) (vl i) (a + k) = _
   unfold upd
   by_cases e:k = i
   · subst e; rw [if_pos rfl]
   · rw [if_neg (by omega)]
     exact h.val k hk (by simpa [e] using hl) (hm _ _ _ hlv)
theorem AnyJ.put2 (h:AnyJ a n vl lv hp D t0 l s) (hm:∀ l i k,lv (fun j=>if j = i then true else l j) k = true → lv l k = true) (i:Nat) (hi:i < n) (q:Nat) (hq:q < n) (hqd:lv (fun j=>if j = i then true else l j) q = false) {v x:AVal} {d d2:Nat} {H':List (List AVal)} (hd:d = a + i) (hd2:d2 = a + q) (hv:v = vl i) (hH:hp (fun j=>if j = i then true else l j) = H') (hD:D fun j=>if j = i then true else l j):AnyJ a n vl lv hp D t0 (fun j=>if j = i then true else l j) ⟨upd (upd s.t d2 x) d v,H'⟩:=by
 subst hd hv hd2
 refine ⟨fun k hk=>?_,fun k hk hl hlv=>?_,hH.symm,hD⟩
 · show upd (upd s.t (a + q) x) (a + i) (vl i) k = _
   unfold upd
   rw [if_neg (by omega),if_neg (by omega)]
   exact h.t0 k hk
 · show upd (upd s.t (a + q) x) (a + i) (vl i) (a + k) = _
   unfold upd
   by_cases e:k = i
   · subst e; rw [if_pos rfl]
   · rw [if_neg (by omega)]
     by_cases e2:k = q
     · subst e2; rw [hqd] at hlv; cases hlv
     · rw [if_neg (by omega)]
       exact h.val k hk (by simpa [e] using hl) (hm _ _ _ hlv)
theorem AnyJ.fin2 (h:AnyJ a n vl lv hp D t0 l s) (hm:∀ l i k,lv (fun j=>if j = i then true else l j) k = true → lv l k = true) (i:Nat) (hi:n ≤ i) (q:Nat) (hq:q < n) (hqd:lv (fun j=>if j = i then true else l j) q = false) {x:AVal} {d2:Nat} {H':List (List AVal)} (hd2:d2 = a + q) (hH:hp (fun j=>if j = i then true else l j) = H') (hD:D fun j=>if j = i then true else l j):AnyJ a n vl lv hp D t0 (fun j=>if j = i then true else l j) ⟨upd s.t d2 x,H'⟩:=by
 subst hd2
 refine ⟨fun k hk=>?_,fun k hk hl hlv=>?_,hH.symm,hD⟩
 · show upd s.t (a + q) x k = _
   unfold upd
   rw [if_neg (by omega)]
   exact h.t0 k hk
 · show upd s.t (a + q) x (a + k) = _
   unfold upd
   have e:¬ k = i:=by omega
   by_cases e2:k = q
   · subst e2; rw [hqd] at hlv; cases hlv
   · rw [if_neg (by omega)]
     exact h.val k hk (by simpa [e] using hl) (hm _ _ _ hlv)
end
theorem caps_le (l:List Cap) (m:Am.Mode) (h:m = .own ∨ m = .sh):LeCells 1 [.sl 2 (l.map encCap) m] [.sl 2 (l.map encCap) m]:=by
 rcases h with rfl | rfl <;> simp
set_option maxHeartbeats 16000000 in
set_option maxRecDepth 20000 in
theorem t86 (b:List Int) (hb:isB b) (l:List Cap) (hlen:b.length + l.length ≤ 65535) :
   CFun Tryz.prog 86 [.ptr 0 0] [[encBs b,.sl 2 (l.map encCap) .own]] (.bool (rdCaps b l).2.2) [[encBs (rdCaps b l).1,.sl 2 ((rdCaps b l).2.1.map encCap) .own]]:=by
 refine CFun.intro (tr:=[35,600008]) (fz:=[]) (n:=53) (rs:=[.tmp 2]) Tryz.func86 rfl (by kernel_rfl) rfl rfl mixed (by kernel_rfl) (by simp) (by simp) ?_
 simp
 refine LoopK.intro (tr:=[35,600008]) mixed (by kernel_rfl) (fun s:List Int × List Cap=>[(0,.ptr 0 0)]) (fun s=>[[encBs s.1,.sl 2 (s.2.map encCap) .own]])
   (fun s=>isB s.1 ∧ s.1.length + s.2.length ≤ 65535 ∧ rdCaps s.1 s.2 = rdCaps b l) (fun s=>s.1.length) (b,l) ?_ ?_ ?_
 · simp [hb,hlen]
 · simp
 · rintro ⟨c,p⟩ ⟨hc,hl,hr⟩
   simp only at hc hl hr
   obtain ⟨R,hx⟩:∃ R,rdCaps c p = R:=⟨_,rfl⟩
   rw [← hr,hx]
   rw [hx] at hr
   rw [rdCaps] at hx
   obtain ⟨m,hm⟩:∃ m,c.length = m:=⟨_,rfl⟩
   rw [hm] at hl hx
   by_cases h0:m = 0
   · rw [if_pos h0] at hx
     by_cases hp:0 < p.length
     · have hp':(0:Int) < p.length:=by omega
       simp [hm,h0,← hx,hp,hp']
     · have hp':¬ (0:Int) < p.length:=by omega
       simp [hm,h0,← hx,hp,hp']
   rw [if_neg h0] at hx
   have h0':(0:Int) < m:=by omega
   have h0n:0 < m:=by omega
   have hcl:=caps_le p .own (.inl rfl)
   have h85:=t85 c 2 _ hcl
   rw [hm] at h85
   by_cases h2:m < 2
   · rw [if_pos h2] at hx
     rw [decide_eq_false (by omega)] at h85
     simp [hm,h0,h0',h0n]
     refine ⟨_,_,.inl (by simpa using h85),by simp,?_⟩
     simp [← hx]
   rw [if_neg h2] at hx
   rw [decide_eq_true (by omega)] at h85
   have h84a:=t84 c hc (by omega) 1 (by omega) (by omega) _ hcl
   have hc1:=isB_drop hc 1
   have hc1l:(c.drop 1).length = m - 1:=by simp only [List.length_drop]; omega
   have h84b:=t84 (c.drop 1) hc1 (by omega) 1 (by omega) (by omega) _ hcl
   rw [numAt_1] at h84a h84b
   have i0:=getD_in hc 0
   have i1:=getD_in hc 1
   have e1:(c.drop 1).getD 0 0 = c.getD 1 0:=by simp [List.getD_eq_getElem?_getD]
   rw [e1,List.drop_drop] at h84b
   have hc2:=isB_drop hc 2
   have hc2l:(c.drop 2).length = m - 2:=by simp only [List.length_drop]; omega
   obtain ⟨q,hq⟩:∃ q:Nat,c.getD 1 0 = q:=⟨(c.getD 1 0).toNat,by omega⟩
   rw [hq] at hx h84b i1
   rw [Int.toNat_natCast] at hx
   generalize c.getD 0 0 = K at *
   have h85b:=t85 (c.drop 2) (q:Int) _ hcl
   rw [hc2l] at h85b
   have h88:=fun (md:Am.Mode) (hmd:md = .own ∨ md = .sh) (hqm:q ≤ m - 2)=>t88 (c.drop 2) (by omega) q (by omega) _ (caps_le p md hmd)
   have hd2:(c.drop 2).drop q = c.drop (2 + q):=by rw [List.drop_drop]
   have hc3:=isB_drop hc (2 + q)
   have hc3l:(c.drop (2 + q)).length = m - (2 + q):=by simp only [List.length_drop]; omega
   rw [hd2] at h88
   simp [hm,h0,h0',h0n]
   refine ⟨_,_,.inl (by simpa using h85),by simp,?_⟩
   simp
   refine ⟨_,_,.inl (by simpa using h84a),by simp,?_⟩
   simp
   refine ⟨_,_,.inl (by simpa using h84b),by simp,?_⟩
   simp
   refine ⟨_,_,.inl (by simpa using h85b),by simp,?_⟩
   by_cases hqm:m < 2 + q
   · rw [if_pos hqm] at hx
     have hd:¬ q ≤ m - 2:=by omega
     simp [hd,← hx]
   rw [if_neg hqm] at hx
   have hd:q ≤ m - 2:=by omega
   have h88':=fun md hmd=>h88 md hmd hd
   have hdm2:(c.map enc8).drop 2 = (c.drop 2).map enc8:=by rw [List.map_drop]
   generalize (c.drop 2).take q = V at *
   generalize c.drop 2 = c2 at *
   generalize c.drop (2 + q) = c3 at *
   simp [hd]
   refine (show ∀ s0:ASt,s0.t 0 = .ptr 0 0 → s0.t 3 = .int .i64 K → s0.t 4 = .int .i64 q → s0.H = [[.sl 1 (c2.map enc8) .sh,.sl 2 (p.map encCap) .own]] → AnyK Tryz.prog [35,600008] _ _ s0 from ?_) _ (by simp) (by simp) (by simp) (by simp [hdm2])
   intro s0 z0 z3 z4 zH
   obtain ⟨vl,hvl⟩:∃ vl:Nat → AVal,vl = fun k=>[.ptr 0 0,.ptr 0 0,.ptr 0 0,.ptr 0 1,.sl 2 (p.map encCap) .own,.int .i64 K,.ptr 0 0,.ptr 0 0,.ptr 0 0,.int .i64 q,.sl 1 (V.map enc8) .sh,.agg [.int .i64 K,.sl 1 (V.map enc8) .sh],.sl 2 [.agg [.int .i64 K,.sl 1 (V.map enc8) .sh]] .full,.sl 2 (p.map encCap ++ [.agg [.int .i64 K,.sl 1 (V.map enc8) .sh]]) .own,.ptr 0 0,.ptr 0 1].getD k .undef:=⟨_,rfl⟩
   obtain ⟨lv,hlv⟩:∃ lv:(Nat → Bool) → Nat → Bool,lv = fun l k=>!((k == 4) && l 13) && !((k == 13) && l 16):=⟨_,rfl⟩
   obtain ⟨hp,hhp⟩:∃ hp:(Nat → Bool) → List (List AVal),hp = fun l=>[[.sl 1 ((if l 10 = true then c3 else c2).map enc8) .sh,if l 16 = true then .sl 2 (p.map encCap ++ [.agg [.int .i64 K,.sl 1 (V.map enc8) .sh]]) .own else if l 4 = true then .sl 2 (p.map encCap) .sh else .sl 2 (p.map encCap) .own]]:=⟨_,rfl⟩
   obtain ⟨D,hD⟩:∃ D:(Nat → Bool) → Prop,D = fun l=>(l 13 = true → l 4 = true) ∧ (l 13 = true → l 12 = true) ∧ (l 12 = true → l 11 = true) ∧ (l 11 = true → l 10 = true) ∧ (l 16 = true → l 13 = true):=⟨_,rfl⟩
   have hm0:∀ l i k,lv (fun j=>if j = i then true else l j) k = true → lv l k = true:=by
     intro l i k
     rw [hlv]
     simp only [Bool.and_eq_true,Bool.not_eq_true',Bool.and_eq_false_iff]
     rintro ⟨a1,a2⟩
     refine ⟨?_,?_⟩
     · rcases a1 with a1 | a1
       · exact .inl a1
       · refine .inr ?_
         by_cases e:13 = i
         · rw [if_pos e] at a1; cases a1
         · rw [if_neg e] at a1; exact a1
     · rcases a2 with a1 | a1
       · exact .inl a1
       · refine .inr ?_
         by_cases e:16 = i
         · rw [if_pos e] at a1; cases a1
         · rw [if_neg e] at a1; exact a1
   refine AnyK_inv (AnyJ 31 16 vl lv hp D s0.t) ?_ ?_ ?_ ?_
   · exact ⟨fun _ _=>rfl,fun k _ h=>by simp at h,by rw [zH,hhp]; simp,by rw [hD]; simp⟩
   · intro l2 s i2 o hI ho hl hdep
     have hi:i2 < 17:=by have:=(Array.getElem?_eq_some_iff.1 ho).1; simpa using this
     obtain ⟨d1,d2,d3,d4,d5⟩:=(by have:=hI.d; rw [hD] at this; exact this:(l2 13 = true → l2 4 = true) ∧ (l2 13 = true → l2 12 = true) ∧ (l2 12 = true → l2 11 = true) ∧ (l2 11 = true → l2 10 = true) ∧ (l2 16 = true → l2 13 = true))
     have t0:=(hI.t0 0 (by omega)).trans z0
     have t3:=(hI.t0 3 (by omega)).trans z3
     have t4:=(hI.t0 4 (by omega)).trans z4
     have sH:=hI.H
     rw [hhp] at sH
     simp only at sH
     have lvo:∀ k,k ≠ 4 → k ≠ 13 → lv l2 k = true:=fun k h1 h2=>by rw [hlv]; simp [h1,h2]
     generalize hG:AnyJ 31 16 vl lv hp D s0.t _ = GG
     rcases (by omega:i2 = 0 ∨ i2 = 1 ∨ i2 = 2 ∨ i2 = 3 ∨ i2 = 4 ∨ i2 = 5 ∨ i2 = 6 ∨ i2 = 7 ∨ i2 = 8 ∨ i2 = 9 ∨ i2 = 10 ∨ i2 = 11 ∨ i2 = 12 ∨ i2 = 13 ∨ i2 = 14 ∨ i2 = 15 ∨ i2 = 16) with rfl | rfl | rfl | rfl | rfl | rfl | rfl | rfl | rfl | rfl | rfl | rfl | rfl | rfl | rfl | rfl | rfl
     all_goals
       simp at ho
       subst ho
       simp [Region.binds] at hdep
     · simp [t0]
       rw [← hG]
       exact hI.put hm0 0 (by omega) rfl (by rw [hvl]; rfl) (by rw [hI.H,hhp]; simp) (by rw [hD]; simpa using ⟨d1,d2,d3,d4,d5⟩)
     · simp [t0]
       rw [← hG]
       exact hI.put hm0 1 (by omega) rfl (by rw [hvl]; rfl) (by rw [hI.H,hhp]; simp) (by rw [hD]; simpa using ⟨d1,d2,d3,d4,d5⟩)
     · have v1:s.t 32 = .ptr 0 0:=by have:=hI.val 1 (by omega) hdep (lvo 1 (by omega) (by omega)); rw [hvl] at this; exact this
       simp [v1]
       rw [← hG]
       exact hI.put hm0 2 (by omega) rfl (by rw [hvl]; rfl) (by rw [hI.H,hhp]; simp) (by rw [hD]; simpa using ⟨d1,d2,d3,d4,d5⟩)
     · have v2:s.t 33 = .ptr 0 0:=by have:=hI.val 2 (by omega) hdep (lvo 2 (by omega) (by omega)); rw [hvl] at this; exact this
       simp [v2]
       rw [← hG]
       exact hI.put hm0 3 (by omega) rfl (by rw [hvl]; rfl) (by rw [hI.H,hhp]; simp) (by rw [hD]; simpa using ⟨d1,d2,d3,d4,d5⟩)
     · have v3:s.t 34 = .ptr 0 1:=by have:=hI.val 3 (by omega) hdep (lvo 3 (by omega) (by omega)); rw [hvl] at this; exact this
       have l13:l2 13 = false:=by
         cases h8:l2 13 with
         | false=>rfl
         | true=>rw [d1 h8] at hl; cases hl
       have l16:l2 16 = false:=by
         cases h8:l2 16 with
         | false=>rfl
         | true=>rw [d5 h8] at l13; cases l13
       rw [l16,hl] at sH
       simp only [Bool.false_eq_true,if_false] at sH
       have hpn:hp (fun j=>if j = 4 then true else l2 j) = [[.sl 1 ((if l2 10 = true then c3 else c2).map enc8) .sh,.sl 2 (p.map encCap) .sh]]:=by rw [hhp]; simp [l16]
       generalize (if l2 10 = true then c3 else c2) = c4 at *
       simp [v3,sH]
       rw [← hG]
       exact hI.put hm0 4 (by omega) rfl (by rw [hvl]; rfl) hpn (by rw [hD]; simp [l13]; exact ⟨d3,d4,l16⟩)
     · simp [t3]
       rw [← hG]
       exact hI.put hm0 5 (by omega) rfl (by rw [hvl]; rfl) (by rw [hI.H,hhp]; simp) (by rw [hD]; simpa using ⟨d1,d2,d3,d4,d5⟩)
     · simp [t0]
       rw [← hG]
       exact hI.put hm0 6 (by omega) rfl (by rw [hvl]; rfl) (by rw [hI.H,hhp]; simp) (by rw [hD]; simpa using ⟨d1,d2,d3,d4,d5⟩)
     · have v6:s.t 37 = .ptr 0 0:=by have:=hI.val 6 (by omega) hdep (lvo 6 (by omega) (by omega)); rw [hvl] at this; exact this
       simp [v6]
       rw [← hG]
       exact hI.put hm0 7 (by omega) rfl (by rw [hvl]; rfl) (by rw [hI.H,hhp]; simp) (by rw [hD]; simpa using ⟨d1,d2,d3,d4,d5⟩)
     · have v7:s.t 38 = .ptr 0 0:=by have:=hI.val 7 (by omega) hdep (lvo 7 (by omega) (by omega)); rw [hvl] at this; exact this
       simp [v7]
       rw [← hG]
       exact hI.put hm0 8 (by omega) rfl (by rw [hvl]; rfl) (by rw [hI.H,hhp]; simp) (by rw [hD]; simpa using ⟨d1,d2,d3,d4,d5⟩)
     · simp [t4]
       rw [← hG]
       exact hI.put hm0 9 (by omega) rfl (by rw [hvl]; rfl) (by rw [hI.H,hhp]; simp) (by rw [hD]; simpa using ⟨d1,d2,d3,d4,d5⟩)
     · have v8:s.t 39 = .ptr 0 0:=by have:=hI.val 8 (by omega) hdep.1 (lvo 8 (by omega) (by omega)); rw [hvl] at this; exact this
       have v9:s.t 40 = .int .i64 q:=by have:=hI.val 9 (by omega) hdep.2 (lvo 9 (by omega) (by omega)); rw [hvl] at this; exact this
       have l11:l2 11 = false:=by
         cases h8:l2 11 with
         | false=>rfl
         | true=>rw [d4 h8] at hl; cases hl
       have l12:l2 12 = false:=by
         cases h8:l2 12 with
         | false=>rfl
         | true=>rw [d3 h8] at l11; cases l11
       have l13:l2 13 = false:=by
         cases h8:l2 13 with
         | false=>rfl
         | true=>rw [d2 h8] at l12; cases l12
       have l16:l2 16 = false:=by
         cases h8:l2 16 with
         | false=>rfl
         | true=>rw [d5 h8] at l13; cases l13
       rw [l16,hl] at sH
       simp only [Bool.false_eq_true,if_false] at sH
       have hpn:hp (fun j=>if j = 10 then true else l2 j) = [[.sl 1 (c3.map enc8) .sh,if l2 4 = true then .sl 2 (p.map encCap) .sh else .sl 2 (p.map encCap) .own]]:=by rw [hhp]; simp [l16]
       have n1:s = ⟨s.t,[[.sl 1 (c2.map enc8) .sh,if l2 4 = true then .sl 2 (p.map encCap) .sh else .sl 2 (p.map encCap) .own]]⟩:=by rw [← sH]
       rw [n1]
       have fin:∀ H',hp (fun j=>if j = 10 then true else l2 j) = H' → GG ⟨upd s.t 41 (.sl 1 (V.map enc8) .sh),H'⟩:=by
         intro H' hH'
         rw [← hG]
         exact hI.put hm0 10 (by omega) rfl (by rw [hvl]; rfl) hH' (by rw [hD]; simp [l11,l12,l13,l16])
       cases h4:l2 4
       · rw [h4] at hpn
         simp [v8,v9]
         refine ⟨_,_,.inl (by simpa using h88' .own (.inl rfl)),by simp,?_⟩
         simp
         exact fin _ (by simpa using hpn)
       · rw [h4] at hpn
         simp [v8,v9]
         refine ⟨_,_,.inl (by simpa using h88' .sh (.inr rfl)),by simp,?_⟩
         simp
         exact fin _ (by simpa using hpn)
     · have v5:s.t 36 = .int .i64 K:=by have:=hI.val 5 (by omega) hdep.1 (lvo 5 (by omega) (by omega)); rw [hvl] at this; exact this
       have v10:s.t 41 = .sl 1 (V.map enc8) .sh:=by have:=hI.val 10 (by omega) hdep.2 (lvo 10 (by omega) (by omega)); rw [hvl] at this; exact this
       simp [v5,v10]
       rw [← hG]
       exact hI.put hm0 11 (by omega) rfl (by rw [hvl]; rfl) (by rw [hI.H,hhp]; simp) (by rw [hD]; simp [hdep.2]; exact ⟨d1,d2,d5⟩)
     · have v11:s.t 42 = .agg [.int .i64 K,.sl 1 (V.map enc8) .sh]:=by have:=hI.val 11 (by omega) hdep (lvo 11 (by omega) (by omega)); rw [hvl] at this; exact this
       simp [v11]
       rw [← hG]
       exact hI.put hm0 12 (by omega) rfl (by rw [hvl]; rfl) (by rw [hI.H,hhp]; simp) (by rw [hD]; simp [hdep]; exact ⟨d1,d4 hdep,d5⟩)
     · have v4:s.t 35 = .sl 2 (p.map encCap) .own:=by have:=hI.val 4 (by omega) hdep.1 (by rw [hlv]; simp [hl]); rw [hvl] at this; exact this
       have v12:s.t 43 = .sl 2 [.agg [.int .i64 K,.sl 1 (V.map enc8) .sh]] .full:=by have:=hI.val 12 (by omega) hdep.2.1 (lvo 12 (by omega) (by omega)); rw [hvl] at this; exact this
       have l16:l2 16 = false:=by
         cases h8:l2 16 with
         | false=>rfl
         | true=>rw [d5 h8] at hl; cases hl
       have s1:p.length + 1 ≤ 140737488355328:=by omega
       have s2:(p.length + 1) * 32 ≤ 140737488355328:=by omega
       simp [v4,v12,s1,s2]
       rw [← hG]
       exact hI.put2 hm0 13 (by omega) 4 (by omega) (by rw [hlv]; simp) rfl rfl (by rw [hvl]; rfl) (by rw [hI.H,hhp]; simp) (by rw [hD]; simp [hdep.1,hdep.2.1,l16]; exact ⟨d3 hdep.2.1,d4⟩)
     · have v0:s.t 31 = .ptr 0 0:=by have:=hI.val 0 (by omega) hdep.1 (lvo 0 (by omega) (by omega)); rw [hvl] at this; exact this
       simp [v0]
       rw [← hG]
       exact hI.put hm0 14 (by omega) rfl (by rw [hvl]; rfl) (by rw [hI.H,hhp]; simp) (by rw [hD]; simpa using ⟨d1,d2,d3,d4,d5⟩)
     · have v14:s.t 45 = .ptr 0 0:=by have:=hI.val 14 (by omega) hdep.1 (lvo 14 (by omega) (by omega)); rw [hvl] at this; exact this
       simp [v14]
       rw [← hG]
       exact hI.put hm0 15 (by omega) rfl (by rw [hvl]; rfl) (by rw [hI.H,hhp]; simp) (by rw [hD]; simpa using ⟨d1,d2,d3,d4,d5⟩)
     · have v15:s.t 46 = .ptr 0 1:=by have:=hI.val 15 (by omega) hdep.1 (lvo 15 (by omega) (by omega)); rw [hvl] at this; exact this
       have v13:s.t 44 = .sl 2 (p.map encCap ++ [.agg [.int .i64 K,.sl 1 (V.map enc8) .sh]]) .own:=by have:=hI.val 13 (by omega) hdep.2.1 (by rw [hlv]; simp [hl]); rw [hvl] at this; exact this
       have l13:l2 13 = true:=hdep.2.1
       have l4:=d1 l13
       have l12:=d2 l13
       have l11:=d3 l12
       have l10:=d4 l11
       rw [hl,l4,l10] at sH
       simp only [if_true,Bool.false_eq_true,if_false] at sH
       simp [v15,v13,sH]
       rw [← hG]
       exact hI.fin2 hm0 16 (by omega) 13 (by omega) (by rw [hlv]; simp) rfl (by rw [hhp]; simp [l10]) (by rw [hD]; simp [l4,l12,l11,l10,l13])
   · intro l2 s hI hall
     have al:∀ k,k < 17 → l2 k = true:=fun k hk=>hall k (by simpa using hk)
     have sH:=hI.H
     rw [hhp] at sH
     simp only [al 10 (by omega),al 16 (by omega),if_true] at sH
     have t0:=(hI.t0 0 (by omega)).trans z0
     clear hI hall al
     obtain ⟨tc,Hc⟩:=s
     simp only at sH t0
     subst sH
     simp [t0]
     exact ⟨c3,p ++ [⟨K,V⟩],⟨hc3,by rw [hc3l]; simp; omega,by rw [hx,hr]⟩,by rw [hc3l]; omega,rfl,by simp⟩
   · intro i2 o ho e he hb
     have hi:i2 < 17:=by have:=(Array.getElem?_eq_some_iff.1 ho).1; simpa using this
     rcases (by omega:i2 = 0 ∨ i2 = 1 ∨ i2 = 2 ∨ i2 = 3 ∨ i2 = 4 ∨ i2 = 5 ∨ i2 = 6 ∨ i2 = 7 ∨ i2 = 8 ∨ i2 = 9 ∨ i2 = 10 ∨ i2 = 11 ∨ i2 = 12 ∨ i2 = 13 ∨ i2 = 14 ∨ i2 = 15 ∨ i2 = 16) with rfl | rfl | rfl | rfl | rfl | rfl | rfl | rfl | rfl | rfl | rfl | rfl | rfl | rfl | rfl | rfl | rfl
     all_goals
       simp at ho
       subst ho
       simp at he
     all_goals first | (subst he; simp; done) | (rcases he with rfl | rfl <;> simp; done) | (rcases he with rfl | rfl | rfl <;> simp; done) | (rcases he with rfl | rfl | rfl | rfl | rfl | rfl | rfl | rfl | rfl | rfl | rfl | rfl | rfl | rfl | rfl <;> simp; done) | (rcases he with rfl | rfl | rfl | rfl | rfl | rfl | rfl | rfl | rfl | rfl | rfl | rfl | rfl | rfl | rfl | rfl | rfl <;> simp; done)
end Go.Proofs.YtapgoboiljjecaaGreatDoor

/- Prefixes are read. -/
namespace Go.Proofs.YtapgoboiljjecaaGreatDoor
open Go Go.Am
set_option linter.unusedSimpArgs false
theorem pres_le (l:List Pre):LeCells 1 [.sl 2 (l.map encPre) .own] [.sl 2 (l.map encPre) .own]:=by simp
set_option maxHeartbeats 16000000 in
set_option maxRecDepth 20000 in
theorem t89 (b:List Int) (hb:isB b) (l:List Pre) (hlen:b.length + l.length ≤ 65535) :
   CFun Tryz.prog 89 [.ptr 0 0] [[encBs b,.sl 2 (l.map encPre) .own]] (.bool (rdPres b l).2.2) [[encBs (rdPres b l).1,.sl 2 ((rdPres b l).2.1.map encPre) .own]]:=by
 refine CFun.intro (tr:=[50,1000050]) (fz:=[]) (n:=56) (rs:=[.tmp 2]) Tryz.func89 rfl (by kernel_rfl) rfl rfl mixed (by kernel_rfl) (by simp) (by simp) ?_
 simp
 refine LoopK.intro (tr:=[50,1000050]) mixed (by kernel_rfl) (fun s:List Int × List Pre=>[(0,.ptr 0 0)]) (fun s=>[[encBs s.1,.sl 2 (s.2.map encPre) .own]])
   (fun s=>isB s.1 ∧ s.1.length + s.2.length ≤ 65535 ∧ rdPres s.1 s.2 = rdPres b l) (fun s=>s.1.length) (b,l) ?_ ?_ ?_
 · simp [hb,hlen]
 · simp
 · rintro ⟨c,p⟩ ⟨hc,hl,hr⟩
   simp only at hc hl hr
   obtain ⟨R,hx⟩:∃ R,rdPres c p = R:=⟨_,rfl⟩
   rw [← hr,hx]
   rw [hx] at hr
   rw [rdPres] at hx
   obtain ⟨m,hm⟩:∃ m,c.length = m:=⟨_,rfl⟩
   rw [hm] at hl hx
   by_cases h0:m = 0
   · rw [if_pos h0] at hx
     simp [hm,h0,← hx]
   rw [if_neg h0] at hx
   have h0':(0:Int) < m:=by omega
   have h0n:0 < m:=by omega
   have hcl:=pres_le p
   have h84a:=t84 c hc (by omega) 1 (by omega) (by omega) _ hcl
   rw [numAt_1] at h84a
   have hc1:=isB_drop hc 1
   have hc1l:(c.drop 1).length = m - 1:=by simp only [List.length_drop]; omega
   have i0:=getD_in hc 0
   unfold preR at hx
   simp only at hx
   obtain ⟨s,hs⟩:∃ s,((c.getD 0 0 + 7) / 8).toNat = s:=⟨_,rfl⟩
   have hs1:(c.getD 0 0 + 7).tdiv 8 = s:=by rw [Int.tdiv_eq_ediv_of_nonneg (by omega)]; omega
   rw [hs] at hx
   have hK32:32 < c.getD 0 0 ∨ s ≤ 4:=by omega
   have hx2:=numAt_in hc 1 s
   generalize c.getD 0 0 = K at *
   have w7:IntKind.i64.wrap (K + 7) = K + 7:=wrap_in (by omega)
   have w8:IntKind.i64.wrap (s:Int) = s:=wrap_in (by omega)
   have h85:=t85 (c.drop 1) (s:Int) _ hcl
   rw [hc1l] at h85
   by_cases g1:32 < K
   · rw [if_pos (.inl g1)] at hx
     simp [hm,h0,h0',h0n]
     refine ⟨_,_,.inl (by simpa using h84a),by simp,?_⟩
     simp [w7,hs1,w8,g1,← hx]
   have hs4:s ≤ 4:=by omega
   by_cases g2:m < 1 + s
   · rw [if_pos (.inr g2)] at hx
     rw [decide_eq_false (by omega)] at h85
     simp [hm,h0,h0',h0n]
     refine ⟨_,_,.inl (by simpa using h84a),by simp,?_⟩
     simp [w7,hs1,w8,g1]
     refine ⟨_,_,.inl (by simpa using h85),by simp,?_⟩
     simp [← hx]
   rw [if_neg (by omega)] at hx
   rw [decide_eq_true (by omega)] at h85
   have h84b:=t84 (c.drop 1) hc1 (by omega) s (by omega) (by omega) _ hcl
   rw [numAt_drop,List.drop_drop] at h84b
   have hc2:=isB_drop hc (1 + s)
   have hc2l:(c.drop (1 + s)).length = m - (1 + s):=by simp only [List.length_drop]; omega
   generalize numAt c 1 s = x at *
   have w9:IntKind.i64.wrap (8 * (s:Int)) = 8 * s:=wrap_in (by omega)
   have w10:IntKind.i64.wrap (32 - 8 * (s:Int)) = 32 - 8 * s:=wrap_in (by omega)
   have w11:IntKind.u64.wrap (32 - 8 * (s:Int)) = 32 - 8 * s:=by rw [wrap_u64]; omega
   have t1:(32 - 8 * (s:Int)).toNat = 32 - 8 * s:=by omega
   have t2:min (32 - 8 * s) IntKind.i64.bits = 32 - 8 * s:=by have:IntKind.i64.bits = 64:=rfl; omega
   have t3:¬ (32 - 8 * (s:Int) < 0):=by omega
   have hxb:0 ≤ x * 2 ^ (32 - 8 * s) ∧ x * 2 ^ (32 - 8 * s) < 4294967296:=by
     have h01234:s = 0 ∨ s = 1 ∨ s = 2 ∨ s = 3 ∨ s = 4:=by omega
     rcases h01234 with rfl | rfl | rfl | rfl | rfl <;> simp only [Nat.reduceMul,Nat.reduceSub] at hx2 ⊢ <;> omega
   have w12:IntKind.i64.wrap (x * 2 ^ (32 - 8 * s)) = x * 2 ^ (32 - 8 * s):=wrap_in (by omega)
   have w13:IntKind.u32.wrap (x * 2 ^ (32 - 8 * s)) = x * 2 ^ (32 - 8 * s):=u32_in hxb
   obtain ⟨A,hA⟩:∃ A,x * 2 ^ (32 - 8 * s) = A:=⟨_,rfl⟩
   rw [hA] at hx hxb w12 w13
   have h77:=fun H=>(c77 A K).up' H rfl rfl
   simp [hm,h0,h0',h0n]
   refine ⟨_,_,.inl (by simpa using h84a),by simp,?_⟩
   simp [w7,hs1,w8,g1]
   refine ⟨_,_,.inl (by simpa using h85),by simp,?_⟩
   simp
   refine ⟨_,_,.inl (by simpa using h84b),by simp,?_⟩
   simp [w9,w10,w11,t1,t2,t3,hA,w12,w13]
   refine ⟨_,_,.inl (by simpa using h77 _),by simp,?_⟩
   cases hv:validP A K
   · rw [if_pos hv] at hx
     simp [← hx]
   · rw [if_neg (by simp [hv])] at hx
     have s1:p.length + 1 ≤ 140737488355328:=by omega
     have s2:(p.length + 1) * 16 ≤ 140737488355328:=by omega
     have hdm:(c.map enc8).drop (1 + s) = (c.drop (1 + s)).map enc8:=by rw [List.map_drop]
     simp [s1,s2]
     exact ⟨c.drop (1 + s),p ++ [⟨A,K⟩],⟨hc2,by rw [hc2l]; simp; omega,by rw [hx,hr]⟩,by rw [hc2l]; omega,hdm,by simp⟩
end Go.Proofs.YtapgoboiljjecaaGreatDoor
