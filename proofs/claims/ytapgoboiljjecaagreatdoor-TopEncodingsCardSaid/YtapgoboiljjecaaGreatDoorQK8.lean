import Derived.Test.YtapgoboiljjecaaGreatDoorQE21
set_option linter.unusedSimpArgs false
set_option linter.unusedVariables false
namespace Go.Proofs.YtapgoboiljjecaaGreatDoor
end Go.Proofs.YtapgoboiljjecaaGreatDoor

namespace Go.Proofs.YtapgoboiljjecaaGreatDoor
open Go Go.Am
structure Hel where
  Len:Int
  Hello:Int
  Dead:Int
  Pri:Int
  DR:Int
  BDR:Int
  Seen:List Int
  deriving DecidableEq
@[simp] def cellsE (h:Hel):List AVal:=[.int .i64 h.Len,.int .i64 h.Hello,.int .i64 h.Dead,.int .i64 h.Pri,.int .u32 h.DR,.int .u32 h.BDR,.sl 1 (h.Seen.map enc32) .sh]
@[simp] def encE (h:Hel):AVal:=.agg (cellsE h)
structure Pkt where
  Kind:Int
  Router:Int
  Area:Int
  Addr:Int
  E:Hel
  Seq:Int
  Init:Bool
  More:Bool
  Master:Bool
  Heads:List Hdr
  Keys:List LKey
  Lsas:List Lsa
  deriving DecidableEq
@[simp] def cellsPk (p:Pkt):List AVal:=[.int .i64 p.Kind,.int .u32 p.Router,.int .u32 p.Area,.int .u32 p.Addr,
  .int .i64 p.E.Len,.int .i64 p.E.Hello,.int .i64 p.E.Dead,.int .i64 p.E.Pri,.int .u32 p.E.DR,.int .u32 p.E.BDR,.sl 1 (p.E.Seen.map enc32) .sh,
  .int .i64 p.Seq,.bool p.Init,.bool p.More,.bool p.Master,.sl 7 (p.Heads.map encH) .sh,.sl 4 (p.Keys.map encY) .sh,.sl 15 (p.Lsas.map encA) .sh]
@[simp] def encPk (p:Pkt):AVal:=.agg (cellsPk p)
def hel0:Hel:=⟨0,0,0,0,0,0,[]⟩
def pkt0:Pkt:=⟨0,0,0,0,hel0,0,false,false,false,[],[],[]⟩
def rowsG {α:Type} (chk:α → Int) (key:α → LKey):Option α → List α → Int
 | _,[]=>0
 | p,x :: xs=>if chk x ≠ 0 then chk x else if (match p with | some y=>decide (0 ≤ cmpY (key y) (key x)) | none=>false) = true then 16 else rowsG chk key (some x) xs
def listG {α:Type} (chk:α → Int) (key:α → LKey) (l:List α):Int:=if 64 < l.length then 4 else rowsG chk key none l
def prevG {α:Type} (l:List α):Nat → Option α
 | 0=>none
 | i + 1=>l[i]?
def chkY (k:LKey):Int:=if inR k.Ty 1 5 = false then 15 else if k.Router = 0 ∨ inR k.Len 0 32 = false then 5 else 0
def seenE:Int → List Int → Int
 | _,[]=>0
 | z,x :: xs=>if x ≤ z then 16 else seenE x xs
def chkE (h:Hel):Int:=if inR h.Len 0 32 = false ∨ inR h.Hello 1 65535 = false ∨ inR h.Dead 1 65535 = false ∨ inR h.Pri 0 255 = false then 5 else if 64 < h.Seen.length then 4 else seenE 0 h.Seen
def forP (p:Pkt):Bool :=
 (decide (p.Kind ≠ 1) && !decide (p.E = hel0)) || (decide (p.Kind ≠ 2) && (decide (p.Seq ≠ 0) || p.Init || p.More || p.Master)) || (decide (p.Kind ≠ 3) && !decide (p.Keys = [])) || (decide (p.Kind ≠ 4) && !decide (p.Lsas = [])) ||
 (decide (p.Kind ≠ 2) && decide (p.Kind ≠ 5) && !decide (p.Heads = []))
def chkP (p:Pkt):Int :=
 if inR p.Kind 1 5 = false then 15 else if p.Router = 0 then 5 else if forP p = true then 1
 else if p.Kind = 1 then chkE p.E else if p.Kind = 3 then listG chkY id p.Keys else if p.Kind = 4 then listG sealE keyA p.Lsas
 else if p.Kind = 2 ∧ inR p.Seq 0 2147483647 = false then 5 else listG chkH keyH p.Heads
end Go.Proofs.YtapgoboiljjecaaGreatDoor

namespace Go.Proofs.YtapgoboiljjecaaGreatDoor
open Go Go.Am
theorem ehL_snd (h:Hdr):(ehL h).2 = chkH h:=by
 unfold ehL
 split
 · rfl
 · rename_i h1
   exact (Decidable.not_not.1 h1).symm
theorem f51 (n lo hi:Int):CFun Tryz.prog 51 [.int .i64 n,.int .i64 lo,.int .i64 hi] [] (.bool (inR n lo hi)) []:=by
 refine CFun.intro (tr:=[]) (fz:=[]) (n:=15) (rs:=[.tmp 6]) Tryz.func51 rfl (by kernel_rfl) rfl rfl mixed (by kernel_rfl) (by simp) (by simp) ?_
 by_cases h:lo ≤ n <;> simp [h,inR]
set_option maxHeartbeats 1000000 in
set_option maxRecDepth 10000 in
theorem f55 (k:LKey):CFun Tryz.prog 63 [encY k] [] (.int .i64 (chkY k)) []:=by
 refine CFun.intro (tr:=[]) (fz:=[]) (n:=18) (rs:=[.tmp 2]) Tryz.func63 rfl (by kernel_rfl) rfl rfl mixed (by kernel_rfl) (by simp) (by simp) ?_
 have h1:=fun H=>(f51 k.Ty 1 5).up' H rfl rfl
 have h2:=fun H=>(f51 k.Len 0 32).up' H rfl rfl
 simp only [chkY]
 simp
 refine ⟨_,_,.inl (by simpa using h1 _),by simp,?_⟩
 cases inR k.Ty 1 5
 · simp
 by_cases e:k.Router = 0
 · simp [e]
 simp [e]
 refine ⟨_,_,.inl (by simpa using h2 _),by simp,?_⟩
 cases inR k.Len 0 32 <;> simp
theorem f56 (k:LKey):CFun Tryz.prog 64 [encY k] [] (encY (id k)) []:=by
 refine CFun.intro (tr:=[]) (fz:=[]) (n:=4) (rs:=[.cell 2 126]) Tryz.func64 rfl (by kernel_rfl) rfl rfl mixed (by kernel_rfl) (by simp) (by simp) ?_
 simp
set_option maxHeartbeats 1000000 in
set_option maxRecDepth 10000 in
theorem f58 (l:Lsa):CFun Tryz.prog 66 [encA l] [] (.int .i64 (sealE l)) []:=by
 refine CFun.intro (tr:=[]) (fz:=[]) (n:=11) (rs:=[.tmp 2]) Tryz.func66 rfl (by kernel_rfl) rfl rfl mixed (by kernel_rfl) (by simp) (by simp) ?_
 have h1:=fun H=>(c21 l).up' H rfl rfl
 simp
 refine ⟨_,_,.inl (h1 _),by simp,?_⟩
 simp [encL_snd]
set_option maxHeartbeats 1000000 in
set_option maxRecDepth 10000 in
theorem f59 (l:Lsa):CFun Tryz.prog 67 [encA l] [] (encY (keyA l)) []:=by
 refine CFun.intro (tr:=[]) (fz:=[]) (n:=6) (rs:=[.cell 2 126]) Tryz.func67 rfl (by kernel_rfl) rfl rfl mixed (by kernel_rfl) (by simp) (by simp) ?_
 have h1:=fun H=>(c25 l.H).up' H rfl rfl
 have e:keyH l.H = keyA l:=rfl
 rw [e] at h1
 generalize keyA l = k at h1 ⊢
 simp
 refine ⟨_,_,.inl (by simpa using h1 _),by simp,?_⟩
 simp
set_option maxHeartbeats 1000000 in
set_option maxRecDepth 10000 in
theorem f61 (h:Hdr):CFun Tryz.prog 69 [encH h] [] (.int .i64 (chkH h)) []:=by
 refine CFun.intro (tr:=[]) (fz:=[]) (n:=11) (rs:=[.tmp 2]) Tryz.func69 rfl (by kernel_rfl) rfl rfl mixed (by kernel_rfl) (by simp) (by simp) ?_
 have h1:=fun H=>(c33 h).up' H rfl rfl
 simp
 refine ⟨_,_,.inl (h1 _),by simp,?_⟩
 simp [ehL_snd]
set_option maxHeartbeats 2000000 in
set_option maxRecDepth 10000 in
theorem f54 (l:List LKey) (n:Nat) (hn:l.length = n) (hlen:n < 1099511627776000):CFun Tryz.prog 62 [.sl 4 (l.map encY) .sh,.fn 63 [] [],.fn 64 [] []] [] (.int .i64 (listG chkY id l)) []:=by
 refine CFun.intro (tr:=[]) (fz:=[]) (n:=43) (rs:=[.tmp 6]) Tryz.func62 rfl (by kernel_rfl) rfl rfl mixed (by kernel_rfl) (by simp) (by simp) ?_
 unfold listG
 by_cases h64:64 < n
 · have h64':(64:Int) < n:=by omega
   simp [hn,h64,h64']
 have h64':¬ (64:Int) < n:=by omega
 simp [hn,h64,h64']
 refine LoopK.intro (tr:=[]) mixed (by kernel_rfl) (fun i:Nat=>[(0,.sl 4 (l.map encY) .sh),(1,.fn 63 [] []),(2,.fn 64 [] []),(13,.sl 4 (l.map encY) .sh),(14,.int .i64 n),(15,.int .i64 i)]) (fun _=>[]) (fun i=>i ≤ n ∧ rowsG chkY id none l = rowsG chkY id (prevG l i) (l.drop i)) (fun i=>n - i) 0 ?_ ?_ ?_
 · simp [prevG]
 · simp [low]
 · rintro i ⟨h1,h2⟩
   by_cases hi:i < n
   · obtain ⟨x,hx,hd⟩:=get_drop (l:=l) (i:=i) (by omega)
     rw [hd] at h2
     have w1:IntKind.i64.wrap ((i:Int) + 1) = i + 1:=wrap_in (by omega)
     have hc:=fun H=>(f55 x).up' H rfl rfl
     have hK:=fun H=>(f56 x).up' H rfl rfl
     simp only [rowsG] at h2
     clear hd
     simp [hi,hn,hx,gE hx]
     refine ⟨_,_,.inl (by simpa [cargs] using hc _),by simp,?_⟩
     by_cases e0:chkY x = 0
     case neg =>
       rw [if_pos e0] at h2
       simp [e0,h2]
     rw [if_neg (by simpa using e0)] at h2
     cases i with
     | zero =>
       have w0:IntKind.i64.wrap 1 = 1:=by decide
       simp only [prevG] at h2
       simp [e0,w0]
       exact ⟨1,⟨by omega,by simpa [prevG,hx] using h2⟩,by omega,by simp [low]⟩
     | succ j =>
       obtain ⟨q,hq,_⟩:=get_drop (l:=l) (i:=j) (by omega)
       simp only [prevG,hq] at h2
       have w2:IntKind.i64.wrap (j:Int) = j:=wrap_in (by omega)
       have h0:(0:Int) < ((j + 1:Nat):Int):=by omega
       have hjn:j < n:=by omega
       have hKq:=fun H=>(f56 q).up' H rfl rfl
       have hC:=fun H=>(c27 (id q) (id x)).up' H rfl rfl
       generalize ekq:id q = kq at hKq hC h2
       generalize ekx:id x = kx at hK hC h2
       simp only [Int.natCast_add,Int.natCast_one] at w1 h0
       simp [e0,w2,h0,hn,hq,gE hq,hjn,hx,gE hx,hi]
       refine ⟨_,_,.inl (by simpa [cargs] using hKq _),by simp,?_⟩
       simp
       refine ⟨_,_,.inl (by simpa [cargs] using hK _),by simp,?_⟩
       simp
       refine ⟨_,_,.inl (by simpa using hC _),by simp,?_⟩
       by_cases ho:0 ≤ cmpY kq kx
       · simp [ho] at h2
         simp [ho,h2]
       · simp [ho] at h2
         have w3:IntKind.i64.wrap ((j:Int) + 2) = j + 2:=wrap_in (by omega)
         simp [ho,w1,w3]
         exact ⟨j + 1 + 1,⟨by omega,by simpa [prevG,hx] using h2⟩,by omega,by simp [low]⟩
   · have e:l.drop i = []:=List.drop_of_length_le (by omega)
     rw [e] at h2
     simp [rowsG] at h2
     simp [hi,hn,h2]
set_option maxHeartbeats 2000000 in
set_option maxRecDepth 10000 in
theorem f57 (l:List Lsa) (n:Nat) (hn:l.length = n) (hlen:n < 1099511627776000):CFun Tryz.prog 65 [.sl 15 (l.map encA) .sh,.fn 66 [] [],.fn 67 [] []] [] (.int .i64 (listG sealE keyA l)) []:=by
 refine CFun.intro (tr:=[]) (fz:=[]) (n:=43) (rs:=[.tmp 6]) Tryz.func65 rfl (by kernel_rfl) rfl rfl mixed (by kernel_rfl) (by simp) (by simp) ?_
 unfold listG
 by_cases h64:64 < n
 · have h64':(64:Int) < n:=by omega
   simp [hn,h64,h64']
 have h64':¬ (64:Int) < n:=by omega
 simp [hn,h64,h64']
 refine LoopK.intro (tr:=[]) mixed (by kernel_rfl) (fun i:Nat=>[(0,.sl 15 (l.map encA) .sh),(1,.fn 66 [] []),(2,.fn 67 [] []),(13,.sl 15 (l.map encA) .sh),(14,.int .i64 n),(15,.int .i64 i)]) (fun _=>[]) (fun i=>i ≤ n ∧ rowsG sealE keyA none l = rowsG sealE keyA (prevG l i) (l.drop i)) (fun i=>n - i) 0 ?_ ?_ ?_
 · simp [prevG]
 · simp [low]
 · rintro i ⟨h1,h2⟩
   by_cases hi:i < n
   · obtain ⟨x,hx,hd⟩:=get_drop (l:=l) (i:=i) (by omega)
     rw [hd] at h2
     have w1:IntKind.i64.wrap ((i:Int) + 1) = i + 1:=wrap_in (by omega)
     have hc:=fun H=>(f58 x).up' H rfl rfl
     have hK:=fun H=>(f59 x).up' H rfl rfl
     simp only [rowsG] at h2
     clear hd
     simp [hi,hn,hx,gE hx]
     refine ⟨_,_,.inl (by simpa [cargs] using hc _),by simp,?_⟩
     by_cases e0:sealE x = 0
     case neg =>
       rw [if_pos e0] at h2
       simp [e0,h2]
     rw [if_neg (by simpa using e0)] at h2
     cases i with
     | zero =>
       have w0:IntKind.i64.wrap 1 = 1:=by decide
       simp only [prevG] at h2
       simp [e0,w0]
       exact ⟨1,⟨by omega,by simpa [prevG,hx] using h2⟩,by omega,by simp [low]⟩
     | succ j =>
       obtain ⟨q,hq,_⟩:=get_drop (l:=l) (i:=j) (by omega)
       simp only [prevG,hq] at h2
       have w2:IntKind.i64.wrap (j:Int) = j:=wrap_in (by omega)
       have h0:(0:Int) < ((j + 1:Nat):Int):=by omega
       have hjn:j < n:=by omega
       have hKq:=fun H=>(f59 q).up' H rfl rfl
       have hC:=fun H=>(c27 (keyA q) (keyA x)).up' H rfl rfl
       generalize ekq:keyA q = kq at hKq hC h2
       generalize ekx:keyA x = kx at hK hC h2
       simp only [Int.natCast_add,Int.natCast_one] at w1 h0
       simp [e0,w2,h0,hn,hq,gE hq,hjn,hx,gE hx,hi]
       refine ⟨_,_,.inl (by simpa [cargs] using hKq _),by simp,?_⟩
       simp
       refine ⟨_,_,.inl (by simpa [cargs] using hK _),by simp,?_⟩
       simp
       refine ⟨_,_,.inl (by simpa using hC _),by simp,?_⟩
       by_cases ho:0 ≤ cmpY kq kx
       · simp [ho] at h2
         simp [ho,h2]
       · simp [ho] at h2
         have w3:IntKind.i64.wrap ((j:Int) + 2) = j + 2:=wrap_in (by omega)
         simp [ho,w1,w3]
         exact ⟨j + 1 + 1,⟨by omega,by simpa [prevG,hx] using h2⟩,by omega,by simp [low]⟩
   · have e:l.drop i = []:=List.drop_of_length_le (by omega)
     rw [e] at h2
     simp [rowsG] at h2
     simp [hi,hn,h2]
set_option maxHeartbeats 2000000 in
set_option maxRecDepth 10000 in
theorem f60 (l:List Hdr) (n:Nat) (hn:l.length = n) (hlen:n < 1099511627776000):CFun Tryz.prog 68 [.sl 7 (l.map encH) .sh,.fn 69 [] [],.fn 70 [] []] [] (.int .i64 (listG chkH keyH l)) []:=by
 refine CFun.intro (tr:=[]) (fz:=[]) (n:=43) (rs:=[.tmp 6]) Tryz.func68 rfl (by kernel_rfl) rfl rfl mixed (by kernel_rfl) (by simp) (by simp) ?_
 unfold listG
 by_cases h64:64 < n
 · have h64':(64:Int) < n:=by omega
   simp [hn,h64,h64']
 have h64':¬ (64:Int) < n:=by omega
 simp [hn,h64,h64']
 refine LoopK.intro (tr:=[]) mixed (by kernel_rfl) (fun i:Nat=>[(0,.sl 7 (l.map encH) .sh),(1,.fn 69 [] []),(2,.fn 70 [] []),(13,.sl 7 (l.map encH) .sh),(14,.int .i64 n),(15,.int .i64 i)]) (fun _=>[]) (fun i=>i ≤ n ∧ rowsG chkH keyH none l = rowsG chkH keyH (prevG l i) (l.drop i)) (fun i=>n - i) 0 ?_ ?_ ?_
 · simp [prevG]
 · simp [low]
 · rintro i ⟨h1,h2⟩
   by_cases hi:i < n
   · obtain ⟨x,hx,hd⟩:=get_drop (l:=l) (i:=i) (by omega)
     rw [hd] at h2
     have w1:IntKind.i64.wrap ((i:Int) + 1) = i + 1:=wrap_in (by omega)
     have hc:=fun H=>(f61 x).up' H rfl rfl
     have hK:=fun H=>(c25 x).up' H rfl rfl
     simp only [rowsG] at h2
     clear hd
     simp [hi,hn,hx,gE hx]
     refine ⟨_,_,.inl (by simpa [cargs] using hc _),by simp,?_⟩
     by_cases e0:chkH x = 0
     case neg =>
       rw [if_pos e0] at h2
       simp [e0,h2]
     rw [if_neg (by simpa using e0)] at h2
     cases i with
     | zero =>
       have w0:IntKind.i64.wrap 1 = 1:=by decide
       simp only [prevG] at h2
       simp [e0,w0]
       exact ⟨1,⟨by omega,by simpa [prevG,hx] using h2⟩,by omega,by simp [low]⟩
     | succ j =>
       obtain ⟨q,hq,_⟩:=get_drop (l:=l) (i:=j) (by omega)
       simp only [prevG,hq] at h2
       have w2:IntKind.i64.wrap (j:Int) = j:=wrap_in (by omega)
       have h0:(0:Int) < ((j + 1:Nat):Int):=by omega
       have hjn:j < n:=by omega
       have hKq:=fun H=>(c25 q).up' H rfl rfl
       have hC:=fun H=>(c27 (keyH q) (keyH x)).up' H rfl rfl
       generalize ekq:keyH q = kq at hKq hC h2
       generalize ekx:keyH x = kx at hK hC h2
       simp only [Int.natCast_add,Int.natCast_one] at w1 h0
       simp [e0,w2,h0,hn,hq,gE hq,hjn,hx,gE hx,hi]
       refine ⟨_,_,.inl (by simpa [cargs] using hKq _),by simp,?_⟩
       simp
       refine ⟨_,_,.inl (by simpa [cargs] using hK _),by simp,?_⟩
       simp
       refine ⟨_,_,.inl (by simpa using hC _),by simp,?_⟩
       by_cases ho:0 ≤ cmpY kq kx
       · simp [ho] at h2
         simp [ho,h2]
       · simp [ho] at h2
         have w3:IntKind.i64.wrap ((j:Int) + 2) = j + 2:=wrap_in (by omega)
         simp [ho,w1,w3]
         exact ⟨j + 1 + 1,⟨by omega,by simpa [prevG,hx] using h2⟩,by omega,by simp [low]⟩
   · have e:l.drop i = []:=List.drop_of_length_le (by omega)
     rw [e] at h2
     simp [rowsG] at h2
     simp [hi,hn,h2]
end Go.Proofs.YtapgoboiljjecaaGreatDoor

namespace Go.Proofs.YtapgoboiljjecaaGreatDoor
open Go Go.Am
theorem SWp_cut {P:Program} {tr:List Nat} {n m:Nat} {a b:Code} {Q:APost} {s:ASt} (hmx:P.follows .mixedOrders = true) (hg:good tr n a = true) (l:List (Nat × AVal)) (H:List (List AVal))
   (h1:awp P tr n m a (thenK (fun s1=>Le m s1 l H) Q) s) (h2:SWp P n m b Q ⟨Am.look l,H⟩):SWp P n m (a.seq b) Q s:=by
 intro G0 w0 G x w hR
 refine wp_seq (wp_mono (awp_sound hmx a _ s hg h1 G0 w0 G x w hR) ?_)
 intro e a' w' he
 cases e with
 | normal=>obtain ⟨s',G',hR',hk⟩:=he; exact h2 G0 w0 G' a' w' (hR'.weaken (Le.st hk))
 | exit id=>exact he
 | ret=>exact he
 | goto l=>exact he
 | panic c=>exact he
 | outgrown=>exact he
theorem SWp_of {P:Program} {tr:List Nat} {n m:Nat} {a:Code} {Q:APost} {s:ASt} (hmx:P.follows .mixedOrders = true) (hg:good tr n a = true) (h:awp P tr n m a Q s):SWp P n m a Q s:=awp_sound hmx a Q s hg h
theorem hel_iff (h:Hel):decide (h = hel0) = (decide (h.Len = 0) && decide (h.Hello = 0) && decide (h.Dead = 0) && decide (h.Pri = 0) && decide (h.DR = 0) && decide (h.BDR = 0) && decide (h.Seen = [])):=by
 rw [Bool.eq_iff_iff]
 cases h
 simp [hel0,and_assoc]
set_option maxHeartbeats 8000000 in
set_option maxRecDepth 10000 in
theorem f52 (p:Pkt):CFun Tryz.prog 60 [encPk p] [] (.bool (forP p)) []:=by
 refine CFun.introS (fz:=[]) (n:=109) (rs:=[.tmp 2]) Tryz.func60 rfl (by kernel_rfl) rfl rfl (by simp) (by simp) ?_
 refine SWp_cut (tr:=[]) mixed (by kernel_rfl) [(1,.ptr 0 0)] [cellsPk p] (by simp) ?_
 refine SWp_cut (tr:=[]) mixed (by kernel_rfl) [(1,.ptr 0 0),(3,.ptr 1 0)] [cellsPk p,cellsE p.E] (by simp) ?_
 refine SWp_cut (tr:=[]) mixed (by kernel_rfl) [(1,.ptr 0 0),(4,.bool (!decide (p.E = hel0)))] [cellsPk p] ?_ ?_
 · rw [hel_iff]
   by_cases e1:p.E.Len = 0
   case neg=>simp [e1]
   by_cases e2:p.E.Hello = 0
   case neg=>simp [e1,e2]
   by_cases e3:p.E.Dead = 0
   case neg=>simp [e1,e2,e3]
   by_cases e4:p.E.Pri = 0
   case neg=>simp [e1,e2,e3,e4]
   by_cases e5:p.E.DR = 0
   case neg=>simp [e1,e2,e3,e4,e5]
   by_cases e6:p.E.BDR = 0
   case neg=>simp [e1,e2,e3,e4,e5,e6]
   by_cases e7:p.E.Seen = []
   · simp [e1,e2,e3,e4,e5,e6,e7]
   · have e7':0 < p.E.Seen.length:=List.length_pos_iff.2 e7
     simp [e1,e2,e3,e4,e5,e6,e7,e7']
 refine SWp_cut (tr:=[]) mixed (by kernel_rfl) [(1,.ptr 0 0),(4,.bool (!decide (p.E = hel0))),(5,.bool (decide (p.Seq ≠ 0) || p.Init || p.More || p.Master))] [cellsPk p] ?_ ?_
 · by_cases e1:p.Seq = 0
   case neg=>simp [e1]
   cases e2:p.Init
   case true=>simp [e1,e2]
   cases e3:p.More
   case true=>simp [e1,e2,e3]
   simp [e1,e2,e3]
 refine SWp_of (tr:=[]) mixed (by kernel_rfl) ?_
 have hf:forP p = ((decide (p.Kind ≠ 1) && !decide (p.E = hel0)) || (decide (p.Kind ≠ 2) && (decide (p.Seq ≠ 0) || p.Init || p.More || p.Master)) || (decide (p.Kind ≠ 3) && !decide (p.Keys = [])) || (decide (p.Kind ≠ 4) && !decide (p.Lsas = [])) ||
   (decide (p.Kind ≠ 2) && decide (p.Kind ≠ 5) && !decide (p.Heads = []))):=rfl
 rw [hf]
 clear hf
 generalize (!decide (p.E = hel0)) = A
 generalize (decide (p.Seq ≠ 0) || p.Init || p.More || p.Master) = B
 have hk:(0 < p.Keys.length) = ¬ (p.Keys = []):=propext List.length_pos_iff
 have hl:(0 < p.Lsas.length) = ¬ (p.Lsas = []):=propext List.length_pos_iff
 have hh:(0 < p.Heads.length) = ¬ (p.Heads = []):=propext List.length_pos_iff
 cases A <;> cases B <;> by_cases k1:p.Kind = 1 <;> by_cases k2:p.Kind = 2 <;> (try omega) <;> by_cases n3:p.Keys = [] <;> by_cases n4:p.Lsas = [] <;> by_cases n5:p.Heads = [] <;> simp [k1,k2,n3,n4,n5,hk,hl,hh]
 all_goals
   by_cases k3:p.Kind = 3 <;> by_cases k4:p.Kind = 4 <;> by_cases k5:p.Kind = 5 <;> (try omega) <;> simp_all
end Go.Proofs.YtapgoboiljjecaaGreatDoor

namespace Go.Proofs.YtapgoboiljjecaaGreatDoor
open Go Go.Am
end Go.Proofs.YtapgoboiljjecaaGreatDoor

namespace Go.Proofs.YtapgoboiljjecaaGreatDoor
open Go Go.Am
set_option maxHeartbeats 2000000 in
set_option maxRecDepth 10000 in
theorem f53 (h:Hel) (n:Nat) (hn:h.Seen.length = n) (hlen:n < 140737488355328):CFun Tryz.prog 61 [encE h] [] (.int .i64 (chkE h)) []:=by
 refine CFun.intro (tr:=[]) (fz:=[]) (n:=46) (rs:=[.tmp 2]) Tryz.func61 rfl (by kernel_rfl) rfl rfl mixed (by kernel_rfl) (by simp) (by simp) ?_
 have h1:=fun H=>(f51 h.Len 0 32).up' H rfl rfl
 have h2:=fun H=>(f51 h.Hello 1 65535).up' H rfl rfl
 have h3:=fun H=>(f51 h.Dead 1 65535).up' H rfl rfl
 have h4:=fun H=>(f51 h.Pri 0 255).up' H rfl rfl
 unfold chkE
 simp
 refine ⟨_,_,.inl (by simpa using h1 _),by simp,?_⟩
 cases inR h.Len 0 32
 · simp
 simp
 refine ⟨_,_,.inl (by simpa using h2 _),by simp,?_⟩
 cases inR h.Hello 1 65535
 · simp
 simp
 refine ⟨_,_,.inl (by simpa using h3 _),by simp,?_⟩
 cases inR h.Dead 1 65535
 · simp
 simp
 refine ⟨_,_,.inl (by simpa using h4 _),by simp,?_⟩
 cases inR h.Pri 0 255
 · simp
 by_cases h64:64 < n
 · have h64':(64:Int) < n:=by omega
   simp [hn,h64,h64']
 have h64':¬ (64:Int) < n:=by omega
 simp [hn,h64,h64']
 refine LoopK.intro (tr:=[]) mixed (by kernel_rfl) (fun i:Nat × Int=>[(3,.int .u32 i.2),(35,.sl 1 (h.Seen.map enc32) .sh),(36,.int .i64 n),(37,.int .i64 i.1)]) (fun _=>[]) (fun i=>i.1 ≤ n ∧ seenE 0 h.Seen = seenE i.2 (h.Seen.drop i.1)) (fun i=>n - i.1) (0,0) ?_ ?_ ?_
 · simp
 · simp
 · rintro ⟨i,z⟩ ⟨k1,k2⟩
   simp only at k1 k2
   by_cases hi:i < n
   · obtain ⟨x,hx,hd⟩:=get_drop (l:=h.Seen) (i:=i) (by omega)
     rw [hd,seenE] at k2
     have w1:IntKind.i64.wrap ((i:Int) + 1) = i + 1:=wrap_in (by omega)
     clear hd
     by_cases hb:x ≤ z
     · rw [if_pos hb] at k2
       simp [hi,hn,hx,gE hx,hb,k2]
     · rw [if_neg hb] at k2
       simp [hi,hn,hx,gE hx,hb,w1]
       exact ⟨i + 1,x,⟨by omega,k2⟩,by omega,by simp⟩
   · have e:h.Seen.drop i = []:=List.drop_of_length_le (by omega)
     rw [e] at k2
     simp [seenE] at k2
     simp [hi,k2]
end Go.Proofs.YtapgoboiljjecaaGreatDoor

namespace Go.Proofs.YtapgoboiljjecaaGreatDoor
open Go Go.Am
end Go.Proofs.YtapgoboiljjecaaGreatDoor

namespace Go.Proofs.YtapgoboiljjecaaGreatDoor
open Go Go.Am
structure okPk (p:Pkt):Prop where
  seen:p.E.Seen.length < 140737488355328
  keys:p.Keys.length < 1099511627776000
  lsas:p.Lsas.length < 1099511627776
  heads:p.Heads.length < 1099511627776000
  nat:∀ x ∈ p.E.Seen,0 ≤ x
  okh:∀ x ∈ p.Heads,inW x.ID
  oka:∀ x ∈ p.Lsas,okA x
set_option maxHeartbeats 8000000 in
set_option maxRecDepth 10000 in
theorem f16 (p:Pkt) (ok:okPk p):CFun Tryz.prog 19 [encPk p] [] (.int .i64 (chkP p)) []:=by
 refine CFun.intro (tr:=[]) (fz:=[]) (n:=41) (rs:=[.tmp 2]) Tryz.func19 rfl (by kernel_rfl) rfl rfl mixed (by kernel_rfl) (by simp) (by simp) ?_
 have h1:=fun H=>(f51 p.Kind 1 5).up' H rfl rfl
 have h2:=fun H=>(f51 p.Seq 0 2147483647).up' H rfl rfl
 have h3:=fun H=>(f52 p).up' H rfl rfl
 have h4:=fun H=>(f53 p.E _ rfl ok.seen).up' H rfl rfl
 have h5:=fun H=>(f54 p.Keys _ rfl ok.keys).up' H rfl rfl
 have h6:=fun H=>(f57 p.Lsas _ rfl (Nat.lt_trans ok.lsas (by decide))).up' H rfl rfl
 have h7:=fun H=>(f60 p.Heads _ rfl ok.heads).up' H rfl rfl
 unfold chkP
 generalize chkE p.E = vE at h4 ⊢
 generalize listG chkY id p.Keys = vK at h5 ⊢
 generalize listG sealE keyA p.Lsas = vL at h6 ⊢
 generalize listG chkH keyH p.Heads = vH at h7 ⊢
 generalize forP p = vF at h3 ⊢
 generalize inR p.Seq 0 2147483647 = vS at h2 ⊢
 generalize inR p.Kind 1 5 = vR at h1 ⊢
 simp
 refine ⟨_,_,.inl (by simpa using h1 _),by simp,?_⟩
 cases vR
 · simp
 by_cases hr:p.Router = 0
 · simp [hr]
 simp [hr]
 refine ⟨_,_,.inl (by simpa using h3 _),by simp,?_⟩
 cases vF
 case true=>simp
 by_cases k1:p.Kind = 1
 · simp [k1]
   exact ⟨_,_,.inl (by simpa using h4 _),by simp,by simp⟩
 by_cases k3:p.Kind = 3
 · simp [k3]
   exact ⟨_,_,.inl (by simpa using h5 _),by simp,by simp⟩
 by_cases k4:p.Kind = 4
 · simp [k4]
   exact ⟨_,_,.inl (by simpa using h6 _),by simp,by simp⟩
 by_cases k2:p.Kind = 2
 · simp [k2]
   refine ⟨_,_,.inl (by simpa using h2 _),by simp,?_⟩
   cases vS
   · simp
   simp
   exact ⟨_,_,.inl (by simpa using h7 _),by simp,by simp⟩
 simp [k1,k2,k3,k4]
 exact ⟨_,_,.inl (by simpa using h7 _),by simp,by simp⟩
end Go.Proofs.YtapgoboiljjecaaGreatDoor

namespace Go.Proofs.YtapgoboiljjecaaGreatDoor
open Go Go.Am
end Go.Proofs.YtapgoboiljjecaaGreatDoor
