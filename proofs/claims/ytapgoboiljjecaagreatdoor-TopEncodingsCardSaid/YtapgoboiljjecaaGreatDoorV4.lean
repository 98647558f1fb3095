import Derived.Test.YtapgoboiljjecaaGreatDoorQK39
import Derived.Test.YtapgoboiljjecaaGreatDoorQK26
set_option linter.unusedSimpArgs false
set_option linter.unusedVariables false
namespace Go.Proofs.YtapgoboiljjecaaGreatDoor
open Go Go.Am
theorem bytes_cells (p:List Int):(p.map enc8).flatMap AVal.cells = p.map enc8:=by
 induction p with
 | nil=>rfl
 | cons x p ih=>simp only [List.map_cons,List.flatMap_cons,ih]; rfl
theorem rep1 (c:AVal) (n:Nat):(List.replicate n [c]).flatten = List.replicate n c:=by
 induction n with
 | zero=>rfl
 | succ n ih=>simp [List.replicate_succ,ih]
theorem setR_bytes (a y:List Int) (m:Nat) (z:AVal) (h:y.length ≤ m):setR (a.map enc8 ++ List.replicate m z) a.length (y.map enc8) = (a ++ y).map enc8 ++ List.replicate (m - y.length) z:=by
 rw [setR_mid _ _ _ (by simpa using h) _ (by simp)]
 simp
theorem run_fill (ps:List (List Int)) (n N:Nat) (hn:ps.length = n) (hN:ps.flatten.length = N) :
   ∃ R:Nat → List Int,R 0 = [] ∧ (∀ i p,ps[i]? = some p → R (i + 1) = R i ++ p) ∧ R n = ps.flatten ∧ ∀ i,(R i).length ≤ N:=by
 refine ⟨fun i=>(ps.take i).flatten,by simp,fun i p h=>by simp only; rw [List.take_add_one,h]; simp,?_,fun i=>?_⟩
 · simp only; rw [List.take_of_length_le (by omega)]
 · have:=congrArg (fun l=>l.flatten.length) (List.take_append_drop i ps)
   simp only [List.flatten_append,List.length_append] at this
   simp only
   omega
set_option maxHeartbeats 2000000 in
set_option maxRecDepth 10000 in
theorem f114r (ps:List (List Int)) (n N:Nat) (hn:ps.length = n) (hN:ps.flatten.length = N) (h0:0 < N) (hlen:n < 1099511627776) (hsz:N < 1099511627776) :
   CFun Tryz.prog 75 [.sl 1 (ps.map encBs) .sh] [] (.osl 0 0 N (some N) 1) [ps.flatten.map enc8]:=by
 refine CFun.intro (tr:=[100021,100030]) (fz:=[]) (n:=33) (rs:=[.tmp 2]) Tryz.func75 rfl (by kernel_rfl) rfl rfl mixed (by kernel_rfl) (by simp) (by simp) ?_
 obtain ⟨R,r0,rs,rn,rl⟩:=run_fill ps n N hn hN
 rw [← rn]
 have rnl:(R n).length = N:=by rw [rn,hN]
 simp [hn]
 refine LoopK.intro (tr:=[100021,100030]) mixed (by kernel_rfl) (fun i:Nat=>[(0,.sl 1 (ps.map encBs) .sh),(3,.int .i64 ((R i).length:Nat)),(9,.sl 1 (ps.map encBs) .sh),(10,.int .i64 n),(11,.int .i64 i)]) (fun _=>[]) (fun i=>i ≤ n) (fun i=>n - i) 0 ?_ ?_ ?_
 · simp
 · simp [r0]
 · rintro i h1
   by_cases hi:i < n
   · obtain ⟨p,hp,_⟩:=get_drop (l:=ps) (i:=i) (by omega)
     have w1:IntKind.i64.wrap ((i:Int) + 1) = i + 1:=wrap_in (by omega)
     have hr:=rs i p hp
     have hl:=rl (i + 1)
     have hl2:(R (i + 1)).length = (R i).length + p.length:=by rw [hr,List.length_append]
     have w2:IntKind.i64.wrap (((R i).length:Int) + p.length) = ((R (i + 1)).length:Nat):=by rw [wrap_in (by omega)]; omega
     simp [hi,hp,gE hp,hn,w1,w2]
     exact ⟨i + 1,by omega,by omega,by simp⟩
   · have hin:i = n:=by omega
     subst hin
     have z0:¬ N = 0:=by omega
     have z1:(0:Int) < N:=by omega
     have z2:N ≤ 281474976710656:=by omega
     have z3:(N:Int) ≤ 9223372036854775807:=by omega
     simp [hn,rnl,z0,z1,z2,z3,h0,rep1]
     refine LoopK.intro (tr:=[100021,100030]) mixed (by kernel_rfl) (fun j:Nat=>[(6,.osl 0 0 (R j).length (some N) 1),(22,.sl 1 (ps.map encBs) .sh),(23,.int .i64 i),(24,.int .i64 j)]) (fun j=>[(R j).map enc8 ++ List.replicate (N - (R j).length) (.int .u8 0)]) (fun j=>j ≤ i) (fun j=>i - j) 0 ?_ ?_ ?_
     · simp
     · have hle:LeCells 1 (List.replicate N (AVal.int .u8 0)) (List.replicate N (AVal.int .u8 0)):=treeCells_le 1 (by simp [AVal.tree])
       simp [r0,hle]
     · rintro j j1
       by_cases hj:j < i
       · obtain ⟨p,hp,_⟩:=get_drop (l:=ps) (i:=j) (by omega)
         have w1:IntKind.i64.wrap ((j:Int) + 1) = j + 1:=wrap_in (by omega)
         have hr:=rs j p hp
         have hl:=rl (j + 1)
         have hl2:(R (j + 1)).length = (R j).length + p.length:=by rw [hr,List.length_append]
         have hcp:=bytes_cells p
         have hsb:∀ H,asrc H (.sl 1 (p.map enc8) .sh) = some (1,p.length,p.map enc8):=fun H=>by
           simp only [asrc,hcp,List.length_map]
         have hsrc:∀ rest,asrc [(R j).map enc8 ++ rest] (.osl 0 0 (R j).length (some N) 1) = some (1,(R j).length,(R j).map enc8):=by
           intro rest
           unfold asrc
           by_cases h0:(R j).length = 0
           · have e:R j = []:=List.length_eq_zero_iff.1 h0
             simp [e]
           · simp [h0]
         have hlb:(R (j + 1)).length ≤ N:=hl
         have hq1:¬ N < (R j).length + p.length:=by omega
         have hq2:(R j).length + p.length ≤ 140737488355328:=by omega
         have hset:=setR_bytes (R j) p (N - (R j).length) (.int .u8 0) (by omega)
         have hle:LeCells 1 ((R j ++ p).map enc8 ++ List.replicate (N - (R j).length - p.length) (AVal.int .u8 0)) ((R (j + 1)).map enc8 ++ List.replicate (N - (R (j + 1)).length) (.int .u8 0)):=by
           rw [hr,List.length_append,Nat.sub_sub]
           exact treeCells_le 1 (by rw [List.all_append,List.all_map]; simp [AVal.tree])
         have hfit:(R j).length + p.length ≤ (R j).length + (N - (R j).length):=by omega
         have hps:(p.map enc8).all AVal.scalar = true:=by rw [List.all_map]; simp [AVal.scalar]
         have hpd:(p.map enc8).map AVal.dis = p.map enc8:=by rw [List.map_map]; rfl
         by_cases hp0:p.length = 0
         · have e:p = []:=List.length_eq_zero_iff.1 hp0
           subst e
           rw [List.append_nil] at hr
           have hsb0:∀ H,asrc H (.sl 1 [] .sh) = some (1,0,[]):=fun _=>rfl
           simp at hq1 hq2
           have hq1':¬ N < (R j).length:=by omega
           simp [hj,hp,gE hp,hsrc,hsb0,-asrc,w1,hq1',hq2]
           refine ⟨j + 1,by omega,by omega,?_⟩
           rw [hr]
           simp at hle
           rw [hr] at hle
           simp [hle]
         · simp [hj,hp,gE hp,hsrc,hsb,-asrc,w1,hq1,hq2,hp0,hfit,hps,hpd,hset,-setR,-List.all_eq_true,-List.map_append]
           refine ⟨j + 1,by omega,by omega,?_⟩
           rw [hl2] at hle
           simp [hl2,hle,-List.map_append]
       · have hji:j = i:=by omega
         subst hji
         have hle:LeCells 1 ((R j).map enc8) ((R j).map enc8):=treeCells_le 1 (by rw [List.all_map]; simp [AVal.tree])
         simp [hn,rnl,hle]
set_option maxHeartbeats 1000000 in
set_option maxRecDepth 10000 in
theorem f70r (b:List Int) (m:Nat) (hm:b.length = m) (hb:m < 1099511627000) (n:Nat) (h1:1 ≤ n) (hn:n ≤ 8) (x:Int) :
   CFun Tryz.prog 21 [encBs b,.int .i64 n,.int .u64 x] [] (.osl 0 0 (m + n) (some (m + n)) 1) [(b ++ numB n x).map enc8]:=by
 refine CFun.intro (tr:=[]) (fz:=[]) (n:=15) (rs:=[.tmp 6]) Tryz.func21 rfl (by kernel_rfl) rfl rfl mixed (by kernel_rfl) (by simp) (by simp) ?_
 have hN:([b,numB n x]:List (List Int)).flatten.length = m + n:=by simp [numB_len,hm]
 have h103:=(f114r [b,numB n x] 2 (m + n) rfl hN (by omega) (by omega) (by omega)).wk [.sl 1 ([b,numB n x].map encBs) .full] (by simp) ⟨whole,trivial⟩
 simp only [List.map_cons,List.map_nil,List.flatten_cons,List.flatten_nil,List.append_nil] at h103
 have z1:¬ ((n:Int) < 0):=by omega
 have z2:¬ ((8:Int) < n):=by omega
 have hle:LeCells 1 ((b ++ numB n x).map enc8) ((b ++ numB n x).map enc8):=treeCells_le 1 (by rw [List.all_map]; simp [AVal.tree])
 simp [z1,z2]
 refine ⟨_,_,.inl (c104 n hn x),by simp,?_⟩
 simp
 refine ⟨_,_,.inl (by simpa [cargs] using h103),by simp,?_⟩
 simp at hle
 simp [hle]
end Go.Proofs.YtapgoboiljjecaaGreatDoor

namespace Go.Proofs.YtapgoboiljjecaaGreatDoor
open Go Go.Am
theorem bodyP_pos (p:Pkt):0 < (bodyP p).length:=by
 unfold bodyP headsB
 repeat' split
 all_goals simp only [List.length_append,helB_len,cntB_len,numB_len]; omega
theorem isB_headP (p:Pkt) (n:Nat):isB (headP p n):=by
 unfold headP
 repeat' apply isB_app
 all_goals exact isB_numB _ _
theorem isB_keyBt (k:LKey):isB (keyBt k):=isB_app (isB_app (isB_app (isB_numB _ _) (isB_numB _ _)) (isB_numB _ _)) (isB_numB _ _)
theorem isB_helB (h:Hel):isB (helB h):=by
 unfold helB cntB
 repeat' apply isB_app
 all_goals exact isB_numB _ _
theorem isB_headsB (l:List Hdr):isB (headsB l):=isB_app (isB_numB _ _) (isB_flat _ _ isB_hdrB)
theorem isB_bodyP (p:Pkt):isB (bodyP p):=by
 unfold bodyP
 split
 · exact isB_app (isB_helB _) (isB_flat _ _ fun x=>isB_numB _ _)
 split
 · exact isB_app (isB_numB _ _) (isB_flat _ _ isB_keyBt)
 split
 · exact isB_app (isB_numB _ _) (isB_flat _ _ isB_bytesA)
 split
 · exact isB_app (isB_app (isB_numB _ _) (isB_numB _ _)) (isB_headsB _)
 · exact isB_headsB _
theorem isB_zeros:isB [0,0]:=by intro x hx; simp at hx; omega
set_option maxHeartbeats 8000000 in
set_option maxRecDepth 10000 in
theorem f19 (p:Pkt) (ok:okPk p):CFun Tryz.prog 6 [encPk p] [] (.tup [encBs (encQ p).1,.int .i64 (encQ p).2]) []:=by
 refine CFun.intro (tr:=[100044]) (fz:=[(2,2,false)]) (n:=53) (rs:=[.tmp 2,.tmp 3]) Tryz.func6 rfl (by kernel_rfl) rfl rfl mixed (by kernel_rfl) (by simp) (by simp) ?_
 have h16:=fun H=>(f16 p ok).up' H rfl rfl
 unfold encQ
 by_cases hc:chkP p = 0
 case neg =>
   simp
   refine ⟨_,_,.inl (by simpa using h16 _),by simp,?_⟩
   simp [hc]
 have h69:=fun H=>(f69 p hc).up' H rfl rfl
 have hl:=bodyP_len hc
 have hp:=bodyP_pos p
 have hT:=isB_bodyP p
 rw [if_neg (by simp [hc])]
 unfold encB
 generalize bodyP p = T at *
 obtain ⟨t,ht⟩:∃ t,T.length = t:=⟨_,rfl⟩
 have w1:IntKind.i64.wrap (18 + (t:Int)) = (18 + t:Nat):=by rw [wrap_in (by omega)]; omega
 have h1:=fun H=>((c88 [] (by simp) 1 (by omega) 1).wk [.sl 0 [] .full,.int .i64 1,.int .u64 1] (by simp) (by simp [All2,LeS])).up' H rfl rfl
 simp only [List.nil_append] at h1
 have h2:=fun H=>(c88 (numB 1 1) (by simp [numB_len]) 1 (by omega) (U p.Kind)).up' H rfl rfl
 have h3:=fun H=>(c88 (numB 1 1 ++ numB 1 (U p.Kind)) (by simp [numB_len]) 2 (by omega) (U (18 + t:Nat))).up' H rfl rfl
 have h4:=fun H=>(c88 (numB 1 1 ++ numB 1 (U p.Kind) ++ numB 2 (U (18 + t:Nat))) (by simp [numB_len]) 4 (by omega) (U p.Router)).up' H rfl rfl
 have h5:=fun H=>(c88 (numB 1 1 ++ numB 1 (U p.Kind) ++ numB 2 (U (18 + t:Nat)) ++ numB 4 (U p.Router)) (by simp [numB_len]) 4 (by omega) (U p.Area)).up' H rfl rfl
 have h6:=fun H=>(c88 (numB 1 1 ++ numB 1 (U p.Kind) ++ numB 2 (U (18 + t:Nat)) ++ numB 4 (U p.Router) ++ numB 4 (U p.Area)) (by simp [numB_len]) 4 (by omega) (U p.Addr)).up' H rfl rfl
 have hd16:=headP_len p t
 have hdef:numB 1 1 ++ numB 1 (U p.Kind) ++ numB 2 (U (18 + t:Nat)) ++ numB 4 (U p.Router) ++ numB 4 (U p.Area) ++ numB 4 (U p.Addr) = headP p t:=rfl
 have hz:numB 2 0 = [0,0]:=by decide
 have h7:=(f70r (headP p t) 16 hd16 (by omega) 2 (by omega) (by omega) 0).upNew [cellsPk p] (by rw [List.all_map]; simp [noid0]) rfl rfl
 rw [hz] at h7
 rw [hdef] at h6
 have hfr:frameP p T = headP p t ++ (numB 2 (U (inet (headP p t ++ [0,0] ++ T))) ++ T):=by unfold frameP; rw [ht]
 rw [hfr]
 have hW:isB (headP p t ++ [0,0] ++ T):=isB_app (isB_app (isB_headP p t) isB_zeros) hT
 have hWl:(headP p t ++ [0,0] ++ T).length = 18 + t:=by simp only [List.length_append,hd16,ht]; rfl
 have h8:=fun H hid=>lend71 (H:=H) (id:=2) (cap:=none) (b:=headP p t ++ [0,0] ++ T) hid hWl (by omega) (by omega) hW
 have h9:=fun H=>((c88 [] (by simp) 2 (by omega) (U (inet (headP p t ++ [0,0] ++ T)))).wk [.sl 0 [] .full,.int .i64 2,.int .u64 (U (inet (headP p t ++ [0,0] ++ T)))] (by simp) (by simp [All2,LeS])).up' H rfl rfl
 simp only [List.nil_append] at h9
 have hV':IntKind.u64.wrap (18 + (t:Int)) = U (18 + t:Nat):=by simp
 clear hdef
 generalize U (18 + t:Nat) = V at *
 generalize numB 1 1 ++ numB 1 (U p.Kind) = B2 at *
 generalize B2 ++ numB 2 V = B3 at *
 generalize B3 ++ numB 4 (U p.Router) = B4 at *
 generalize B4 ++ numB 4 (U p.Area) = B5 at *
 generalize numB 1 1 = B1 at *
 generalize headP p t = B6 at *
 have e18:∀ (X:List Int),B6 ++ [0,0] ++ X = (B6 ++ [0,0]) ++ X:=fun _=>rfl
 have hB7:(B6 ++ [0,0]).length = 18:=by simp [hd16]
 have hset:∀ y:List Int,y.length = 2 → setR ((B6 ++ [0,0] ++ T).map enc8) 16 (y.map enc8) = (B6 ++ (y ++ T)).map enc8:=by
   intro y hy
   have:=setR_mid (B6.map enc8) (([0,0] ++ T).map enc8) (y.map enc8) (by simp [hy]) 16 (by simp [hd16])
   rw [List.append_assoc,List.map_append,this,List.map_append,List.map_append]
   congr 2
   simp [hy]
 have hch:=fun (y:List Int) (hy:y.length = 2)=>chunk8 (B6 ++ (y ++ T)) (18 + t) (by simp only [List.length_append,hd16,hy,ht]; omega)
 have hYl:∀ y,(numB 2 y).length = 2:=fun y=>numB_len 2 y
 have hsY:∀ (y:List Int) (H:List (List AVal)),y.length = 2 → asrc H (.sl 1 (y.map enc8) .own) = some (1,2,y.map enc8):=fun y H hy=>by
   simp only [asrc,bytes_cells,List.length_map,hy]
 have hsT:∀ (H:List (List AVal)),asrc H (.sl 1 (T.map enc8) .sh) = some (1,t,T.map enc8):=fun H=>by
   simp only [asrc,bytes_cells,List.length_map,ht]
 have hds:∀ y:List Int,(y.map enc8).map AVal.dis = y.map enc8:=fun y=>by rw [List.map_map]; rfl
 have hsc:∀ y:List Int,(y.map enc8).all AVal.scalar = true:=fun y=>by rw [List.all_map]; simp [AVal.scalar]
 have htr:∀ y:List Int,(y.map enc8).all AVal.tree = true:=fun y=>by rw [List.all_map]; simp [AVal.tree]
 clear e18
 generalize hW':B6 ++ [0,0] ++ T = W at *
 generalize B6 ++ [0,0] = B7 at *
 generalize inet W = v at *
 have hs7:∀ c0,asrc [c0,B7.map enc8] (.osl 1 0 18 (some 18) 1) = some (1,18,B7.map enc8):=fun c0=>by
   simp [asrc,hB7]
   exact List.take_of_length_le (by simp [hB7])
 have happ:B7.map enc8 ++ T.map enc8 = W.map enc8:=by rw [← List.map_append,hW']
 have hset':=hset (numB 2 (U v)) (hYl _)
 have hch':=hch (numB 2 (U v)) (hYl _)
 have hY:=hYl (U v)
 have hsY':=fun H=>hsY (numB 2 (U v)) H hY
 have hfl:(B6 ++ (numB 2 (U v) ++ T)).length = 18 + t:=by simp only [List.length_append,hd16,hY,ht]; omega
 generalize hZ:B6 ++ (numB 2 (U v) ++ T) = Z at *
 generalize numB 2 (U v) = Y at *
 clear hset hch hsY hYl hW' hZ
 simp
 refine ⟨_,_,.inl (by simpa using h16 _),by simp,?_⟩
 simp [hc]
 refine ⟨_,_,.inl (by simpa using h69 _),by simp,?_⟩
 simp
 refine ⟨_,_,.inl (by simpa using h1 _),by simp,?_⟩
 simp
 refine ⟨_,_,.inl (by simpa using h2 _),by simp,?_⟩
 simp [ht,w1,hV']
 refine ⟨_,_,.inl (by simpa [ht,w1,hV'] using h3 _),by simp,?_⟩
 simp
 refine ⟨_,_,.inl (by simpa using h4 _),by simp,?_⟩
 simp
 refine ⟨_,_,.inl (by simpa using h5 _),by simp,?_⟩
 simp
 refine ⟨_,_,.inl (by simpa using h6 _),by simp,?_⟩
 simp
 refine ⟨_,_,.inl (by simpa [ren,ren0] using h7),by simp,?_⟩
 have q1:18 + t ≤ 140737488355328:=by omega
 have q2:0 < t:=by omega
 have q3:(16:Int) ≤ 18 + t:=by omega
 have q4:min 2 (18 + t - 16) = 2:=by omega
 have q5:16 + 2 ≤ 18 + t:=by omega
 have q6:(Y.map enc8).take 2 = Y.map enc8:=List.take_of_length_le (by simp [hY])
 have q7:(Z.map enc8).take (18 + t) = Z.map enc8:=List.take_of_length_le (by simp [hfl])
 have q9:0 < 18 + t:=by omega
 have q8:(W.map enc8).take (18 + t) = W.map enc8:=List.take_of_length_le (by simp [hWl])
 simp [hs7,hsT,-asrc,q1,q2,q3,happ,hds,-List.map_map]
 refine ⟨_,_,.inl (h8 _ rfl),by simp,?_⟩
 simp [-asrc,q1,q2,q3,happ,hds,-List.map_map]
 refine ⟨_,_,.inl (by simpa using h9 _),by simp,?_⟩
 simp [hsY',-asrc,q9,q3,q4,q5,q6,q7,hds,hsc,htr,hset',hch',hWl,hfl,-List.map_map,-List.all_eq_true,-setR]
end Go.Proofs.YtapgoboiljjecaaGreatDoor

namespace Go.Proofs.YtapgoboiljjecaaGreatDoor
open Go Go.Am
end Go.Proofs.YtapgoboiljjecaaGreatDoor

namespace Go.Proofs.YtapgoboiljjecaaGreatDoor
open Go Go.Am
end Go.Proofs.YtapgoboiljjecaaGreatDoor

namespace Go.Proofs.YtapgoboiljjecaaGreatDoor
open Go Go.Am
theorem decP_okPk {b:List Int} (hb:isB b) (h:(decP b).2 = 0):okPk (decP b).1:=by
 obtain ⟨_,_,e⟩:=decP_ok hb h
 have e1:(readP b).2.2 = 0:=by
   have hf:=decP_front h
   unfold decP at h
   rw [if_neg (by simp [hf])] at h
   by_cases e1:(readP b).2.2 = 0
   · exact e1
   · rw [if_pos e1] at h; exact (e1 h).elim
 rw [e]
 exact (rdP_ok (isB_drop hb 18) e1).1
end Go.Proofs.YtapgoboiljjecaaGreatDoor

/- The small functions. -/
namespace Go.Proofs.YtapgoboiljjecaaGreatDoor
open Go Go.Am
set_option linter.unusedSimpArgs false
theorem wrap_u8 (x:Int):IntKind.u8.wrap x = x % 256:=by simp [IntKind.wrap,IntKind.bits,IntKind.signed]
@[simp] theorem range_2:List.range 2 = [0,1]:=rfl
@[simp] theorem range_3:List.range 3 = [0,1,2]:=rfl
@[simp] theorem range_4:List.range 4 = [0,1,2,3]:=rfl
@[simp] theorem range_5:List.range 5 = [0,1,2,3,4]:=rfl
@[simp] theorem range_6:List.range 6 = [0,1,2,3,4,5]:=rfl
@[simp] theorem range_7:List.range 7 = [0,1,2,3,4,5,6]:=rfl
@[simp] theorem range_8:List.range 8 = [0,1,2,3,4,5,6,7]:=rfl
@[simp] theorem range_9:List.range 9 = [0,1,2,3,4,5,6,7,8]:=rfl
@[simp] theorem range_10:List.range 10 = [0,1,2,3,4,5,6,7,8,9]:=rfl
@[simp] theorem range_11:List.range 11 = [0,1,2,3,4,5,6,7,8,9,10]:=rfl
theorem t41:CFun Tryz.prog 41 [.bool true] [] (.int .i64 4) []:=by
 refine CFun.intro (tr:=[]) (fz:=[]) (n:=4) (rs:=[.tmp 2]) Tryz.func41 rfl (by kernel_rfl) rfl rfl mixed (by kernel_rfl) (by simp) (by simp) ?_
 simp
theorem t48 (k:Int):CFun Tryz.prog 48 [.int .i64 k] [] (.int .i64 (sizeL k)) []:=by
 refine CFun.intro (tr:=[]) (fz:=[]) (n:=5) (rs:=[.tmp 2]) Tryz.func48 rfl (by kernel_rfl) rfl rfl mixed (by kernel_rfl) (by simp) (by simp) ?_
 by_cases h:k = 4 <;> simp [h,sizeL]
def shortI (x:Int):Int:=if 65535 < x then 23456 else x
theorem t87 (x:Int):CFun Tryz.prog 87 [.int .i64 x] [] (.int .i64 (shortI x)) []:=by
 refine CFun.intro (tr:=[]) (fz:=[]) (n:=6) (rs:=[.tmp 2]) Tryz.func87 rfl (by kernel_rfl) rfl rfl mixed (by kernel_rfl) (by simp) (by simp) ?_
 by_cases h:65535 < x <;> simp [h,shortI]
def whenI (b:Bool) (e:Int):Int:=if b = true then e else 0
theorem t98 (b:Bool) (e:Int):CFun Tryz.prog 98 [.bool b,.int .i64 e] [] (.int .i64 (whenI b e)) []:=by
 refine CFun.intro (tr:=[]) (fz:=[]) (n:=7) (rs:=[.tmp 4]) Tryz.func98 rfl (by kernel_rfl) rfl rfl mixed (by kernel_rfl) (by simp) (by simp) ?_
 cases b <;> simp [whenI]
def optI (b:Bool) (n low:Int):Int:=if b = true ∧ (n < low ∨ 4294967295 < n) then 5 else if b = false ∧ n ≠ 0 then 1 else 0
theorem t100 (b:Bool) (n low:Int):CFun Tryz.prog 100 [.bool b,.int .i64 n,.int .i64 low] [] (.int .i64 (optI b n low)) []:=by
 refine CFun.intro (tr:=[]) (fz:=[]) (n:=25) (rs:=[.tmp 6]) Tryz.func100 rfl (by kernel_rfl) rfl rfl mixed (by kernel_rfl) (by simp) (by simp) ?_
 cases b
 · by_cases h:n = 0 <;> simp [h,optI]
 · by_cases h:n < low
   · simp [h,optI]
   · by_cases h2:4294967295 < n <;> simp [h,h2,optI]
set_option maxHeartbeats 1000000 in
set_option maxRecDepth 10000 in
theorem t97 (l:List Int) (n:Nat) (hn:(l.length:Int) = n) (hlen:n < 1099511627776):CFun Tryz.prog 97 [.sl 1 (l.map encI) .sh] [] (.int .i64 (orL l)) []:=by
 refine CFun.intro (tr:=[]) (fz:=[]) (n:=15) (rs:=[.tmp 2]) Tryz.func97 rfl (by kernel_rfl) rfl rfl mixed (by kernel_rfl) (by simp) (by simp) ?_
 simp [hn]
 refine LoopK.intro (tr:=[]) mixed (by kernel_rfl) (fun i:Nat=>[(5,.sl 1 (l.map encI) .sh),(6,.int .i64 n),(7,.int .i64 i)]) (fun _=>[]) (fun i=>i ≤ n ∧ orL l = orL (l.drop i)) (fun i=>n - i) 0 ?_ ?_ ?_
 · simp
 · simp
 · rintro i ⟨h1,h2⟩
   by_cases hi:i < n
   · obtain ⟨y,hy,hd⟩:=get_drop (l:=l) (i:=i) (by omega)
     rw [hd] at h2
     have w1:IntKind.i64.wrap ((i:Int) + 1) = i + 1:=wrap_in (by omega)
     clear hd hn
     by_cases hy0:y = 0
     · simp [orL,hy0] at h2
       simp [hi,hy,hy0,w1]
       exact ⟨i + 1,⟨by omega,h2⟩,by omega,by simp⟩
     · simp [orL,hy0] at h2
       simp [hi,hy,hy0,h2]
   · have e:l.drop i = []:=List.drop_of_length_le (by omega)
     rw [e] at h2
     simp [orL] at h2
     simp [hi,h2]
def badLen (k n:Int):Bool:=if k = 1 then decide (n < 29) else if k = 2 then decide (n < 23) else if k = 3 then decide (n < 21) else if k = 4 then decide (n ≠ 19) else decide (n ≠ 23)
theorem t32 (k n:Int):CFun Tryz.prog 32 [.int .i64 k,.int .i64 n] [] (.bool (badLen k n)) []:=by
 refine CFun.intro (tr:=[]) (fz:=[]) (n:=24) (rs:=[.tmp 4]) Tryz.func32 rfl (by kernel_rfl) rfl rfl mixed (by kernel_rfl) (by simp) (by simp) ?_
 by_cases h1:k = 1
 · by_cases h:n < 29 <;> simp [h1,h,badLen]
 by_cases h2:k = 2
 · by_cases h:n < 23 <;> simp [h2,h,badLen]
 by_cases h3:k = 3
 · by_cases h:n < 21 <;> simp [h3,h,badLen]
 by_cases h4:k = 4
 · by_cases h:n = 19 <;> simp [h4,h,badLen]
 by_cases h:n = 23 <;> simp [h1,h2,h3,h4,h,badLen]
theorem flg_big {k:Int} (h:10 < k):flg k = 224:=if_pos h
theorem flg_small {k:Nat} (h:k ≤ 10):([AVal.int .u8 224,.int .u8 64,.int .u8 64,.int .u8 64,.int .u8 128,.int .u8 64,.int .u8 64,.int .u8 192,.int .u8 192,.int .u8 128,.int .u8 128]:List AVal)[k]? = some (.int .u8 (flg k)):=by
 have:k = 0 ∨ k = 1 ∨ k = 2 ∨ k = 3 ∨ k = 4 ∨ k = 5 ∨ k = 6 ∨ k = 7 ∨ k = 8 ∨ k = 9 ∨ k = 10:=by omega
 rcases this with rfl | rfl | rfl | rfl | rfl | rfl | rfl | rfl | rfl | rfl | rfl <;> rfl
@[simp] theorem av_glob0 (t:Nat → AVal):av t (.global 0) = .iptr [.int .u8 224,.int .u8 64,.int .u8 64,.int .u8 64,.int .u8 128,.int .u8 64,.int .u8 64,.int .u8 192,.int .u8 192,.int .u8 128,.int .u8 128] 0:=Eq.trans rfl rfl
theorem t39 (k:Int) (hk:0 ≤ k):CFun Tryz.prog 39 [.int .i64 k] [] (.int .u8 (flg k)) []:=by
 refine CFun.intro (tr:=[]) (fz:=[]) (n:=8) (rs:=[.tmp 2]) Tryz.func39 rfl (by kernel_rfl) rfl rfl mixed (by kernel_rfl) (by simp) (by simp) ?_
 by_cases h:10 < k
 · simp [h,flg_big h]
 · obtain ⟨n,rfl⟩:∃ n:Nat,k = n:=⟨k.toNat,by omega⟩
   have h':(n:Int) < 11:=by omega
   have h2:n < 11:=by omega
   have hf:=flg_small (k:=n) (by omega)
   obtain ⟨hh,hf2⟩:=List.getElem?_eq_some_iff.1 hf
   simp [h,h',h2,hf,hf2]
end Go.Proofs.YtapgoboiljjecaaGreatDoor

/- Messages and attributes as values; the small functions that take them. -/
namespace Go.Proofs.YtapgoboiljjecaaGreatDoor
open Go Go.Am
set_option linter.unusedSimpArgs false
structure Msg where
  Kind:Int
  Ver:Int
  AS:Int
  Hold:Int
  Rtr:Int
  Caps:List Cap
  Wd:List Pre
  At:Att
  Rc:List Pre
  Code:Int
  Sub:Int
  Data:List Int
def msg0:Msg:=⟨0,0,0,0,0,[],[],att0,[],0,0,[]⟩
@[simp] def encSeg (s:Seg):AVal:=.agg [.int .i64 s.Kind,.sl 1 (s.AS.map encI) .sh]
@[simp] def encTlv (t:Tlv):AVal:=.agg [.int .i64 t.Kind,.sl 1 (t.Val.map enc8) .sh]
@[simp] def encCap (c:Cap):AVal:=.agg [.int .i64 c.Code,.sl 1 (c.Val.map enc8) .sh]
@[simp] def encPre (p:Pre):AVal:=.agg [.int .u32 p.A,.int .i64 p.N]
@[simp] def cellsAt (a:Att):List AVal:=[.int .i64 a.Origin,.sl 2 (a.Path.map encSeg) .sh,.int .u32 a.Next,.bool a.HasMED,.int .i64 a.MED,.bool a.HasPref,.int .i64 a.Pref,.bool a.Atomic,.bool a.HasAggr,.int .i64 a.AggrAS,.int .u32 a.AggrAddr,
  .sl 1 (a.Comm.map enc32) .sh,.bool a.HasOrig,.int .u32 a.Origr,.sl 1 (a.Clus.map enc32) .sh,.sl 2 (a.Unk.map encTlv) .sh]
@[simp] def encAt (a:Att):AVal:=.agg (cellsAt a)
@[simp] def cellsM (m:Msg):List AVal:=[.int .i64 m.Kind,.int .i64 m.Ver,.int .i64 m.AS,.int .i64 m.Hold,.int .u32 m.Rtr,.sl 2 (m.Caps.map encCap) .sh,.sl 2 (m.Wd.map encPre) .sh,
  .int .i64 m.At.Origin,.sl 2 (m.At.Path.map encSeg) .sh,.int .u32 m.At.Next,.bool m.At.HasMED,.int .i64 m.At.MED,.bool m.At.HasPref,.int .i64 m.At.Pref,.bool m.At.Atomic,.bool m.At.HasAggr,.int .i64 m.At.AggrAS,.int .u32 m.At.AggrAddr,
  .sl 1 (m.At.Comm.map enc32) .sh,.bool m.At.HasOrig,.int .u32 m.At.Origr,.sl 1 (m.At.Clus.map enc32) .sh,.sl 2 (m.At.Unk.map encTlv) .sh,
  .sl 2 (m.Rc.map encPre) .sh,.int .i64 m.Code,.int .i64 m.Sub,.sl 1 (m.Data.map enc8) .sh]
@[simp] def encM (m:Msg):AVal:=.agg (cellsM m)
def noteM (code sub:Int) (d:List Int):Msg:={ msg0 with Kind:=3,Code:=code,Sub:=sub,Data:=d }
set_option maxRecDepth 10000 in
theorem t30 (code sub:Int) (d:List Int):CFun Tryz.prog 30 [.int .i64 code,.int .i64 sub,.sl 1 (d.map enc8) .sh] [] (encM (noteM code sub d)) []:=by
 refine CFun.intro (tr:=[]) (fz:=[]) (n:=11) (rs:=[.cell 6 55]) Tryz.func30 rfl (by kernel_rfl) rfl rfl mixed (by kernel_rfl) (by simp) (by simp) ?_
 simp [noteM,msg0,att0]
theorem t38 (b:List Int) (hb:isB b) (hlen:b.length < 281474976710656) (at_ n:Nat) (hn:n ≤ 4) (h:at_ + n ≤ b.length):CFun Tryz.prog 38 [encBs b,.int .i64 at_,.int .i64 n] [] (.int .i64 (numAt b at_ n)) []:=by
 refine CFun.intro (tr:=[]) (fz:=[]) (n:=18) (rs:=[.tmp 6]) Tryz.func38 rfl (by kernel_rfl) rfl rfl mixed (by kernel_rfl) (by simp) (by simp) ?_
 have h1:=c93 b hb hlen at_ n (by omega) (by omega)
 have h2:=numAt_in hb at_ n
 have h3:(256:Int) ^ n ≤ 4294967296:=by
   have:n = 0 ∨ n = 1 ∨ n = 2 ∨ n = 3 ∨ n = 4:=by omega
   rcases this with rfl | rfl | rfl | rfl | rfl <;> decide
 have w:IntKind.i64.wrap (numAt b at_ n) = numAt b at_ n:=wrap_in (by omega)
 rw [if_pos h] at h1
 simp
 refine ⟨_,_,.inl (by simpa using h1),by simp,?_⟩
 simp [w]
theorem u64_in {x:Int} (h:in32 x):IntKind.u64.wrap x = x:=by unfold in32 at h; rw [wrap_u64]; omega
theorem i64_in {x:Int} (h:in32 x):IntKind.i64.wrap x = x:=by unfold in32 at h; exact wrap_in (by omega)
theorem u32_in {x:Int} (h:in32 x):IntKind.u32.wrap x = x:=by unfold in32 at h; exact u32_id h
theorem put0 (n:Nat) (hn:n ≤ 8) (x:Int):CFun Tryz.prog 21 [.sl 0 [] .full,.int .i64 n,.int .u64 x] [] (.sl 1 ((numB n x).map enc8) .own) [] :=
 (c88 [] (by simp) n hn x).wk [.sl 0 [] .full,.int .i64 n,.int .u64 x] (by simp) (by simp [All2,LeS])
theorem t45 (x:Int) (hx:in32 x):CFun Tryz.prog 45 [.int .i64 x] [] (.sl 1 ((numB 4 x).map enc8) .own) []:=by
 refine CFun.intro (tr:=[]) (fz:=[]) (n:=6) (rs:=[.tmp 2]) Tryz.func45 rfl (by kernel_rfl) rfl rfl mixed (by kernel_rfl) (by simp) (by simp) ?_
 have h1:=put0 4 (by omega) x
 have w:=u64_in hx
 simp [w]
 refine ⟨_,_,.inl (by simpa using h1),by simp,?_⟩
 simp
@[simp] def cellsW (B:List Int):List AVal:=[.sl 1 (B.map enc8) .own,.bool true,.bool false]
theorem t46 (x:Int) (hx:in32 x) (B:List Int):CFun Tryz.prog 46 [.ptr 0 0,.int .i64 x] [cellsW B] (.sl 1 ((numB 4 x).map enc8) .own) [cellsW B]:=by
 refine CFun.intro (tr:=[]) (fz:=[]) (n:=31) (rs:=[.tmp 4]) Tryz.func46 rfl (by kernel_rfl) rfl rfl mixed (by kernel_rfl) (by simp) (by simp) ?_
 have h1:=fun H=>(put0 4 (by omega) x).up' H rfl rfl
 have h2:=fun H=>t41.up' H rfl rfl
 have w:=u64_in hx
 simp
 refine ⟨_,_,.inl (by simpa using h2 _),by simp,?_⟩
 simp [w]
 refine ⟨_,_,.inl (by simpa using h1 _),by simp,?_⟩
 simp
end Go.Proofs.YtapgoboiljjecaaGreatDoor

/- Numbers and paths are written. -/
namespace Go.Proofs.YtapgoboiljjecaaGreatDoor
open Go Go.Am
set_option linter.unusedSimpArgs false
theorem wordsB_take (l:List Int) (i:Nat) (x:Int) (h:l[i]? = some x):wordsB (l.take (i + 1)) = wordsB (l.take i) ++ numB 4 x:=by
 rw [List.take_add_one,h,Option.toList_some,wordsB_app,wordsB_one]
set_option maxHeartbeats 1000000 in
set_option maxRecDepth 10000 in
theorem t47 (l:List Int) (n:Nat) (hn:l.length = n) (hlen:n < 1099511627776) (hl:∀ x ∈ l,in32 x):CFun Tryz.prog 47 [.sl 1 (l.map enc32) .sh] [] (.sl 1 ((wordsB l).map enc8) .sh) []:=by
 refine CFun.intro (tr:=[12]) (fz:=[]) (n:=19) (rs:=[.tmp 2]) Tryz.func47 rfl (by kernel_rfl) rfl rfl mixed (by kernel_rfl) (by simp) (by simp) ?_
 simp [hn]
 refine LoopK.intro (tr:=[12]) mixed (by kernel_rfl) (fun i:Nat=>[(3,.sl 1 ((wordsB (l.take i)).map enc8) .own),(6,.sl 1 (l.map enc32) .sh),(7,.int .i64 n),(8,.int .i64 i)]) (fun _=>[]) (fun i=>i ≤ n) (fun i=>n - i) 0 ?_ ?_ ?_
 · simp
 · simp [wordsB]
 · rintro i h1
   by_cases hi:i < n
   · obtain ⟨y,hy,hd⟩:=get_drop (l:=l) (i:=i) (by omega)
     have w1:IntKind.i64.wrap ((i:Int) + 1) = i + 1:=wrap_in (by omega)
     have hin:=hl y (List.mem_of_getElem? hy)
     have w2:=i64_in hin
     have h45:=t45 y hin
     have e:=wordsB_take l i y hy
     have hwl:=wordsB_len (l.take i)
     have hti:(l.take i).length = i:=by simp; omega
     rw [hti] at hwl
     have hb4:=numB_len 4 y
     generalize wordsB (l.take i) = W at *
     generalize numB 4 y = N at *
     have s1:W.length + N.length ≤ 140737488355328:=by omega
     simp [hi,hy,w1,w2]
     refine ⟨_,_,.inl (by simpa using h45),by simp,?_⟩
     simp [s1,w1]
     exact ⟨i + 1,by omega,by omega,by simp [e]⟩
   · have hin:i = n:=by omega
     have e:l.take i = l:=List.take_of_length_le (by omega)
     simp [hi,e]
theorem pathB_take (p:List Seg) (i:Nat) (s:Seg) (h:p[i]? = some s):pathB (p.take (i + 1)) = pathB (p.take i) ++ ([s.Kind,(s.AS.length:Int)] ++ wordsB s.AS):=by
 rw [List.take_add_one,h,Option.toList_some,pathB_app]
 simp [pathB,segB]
theorem pathB_len:∀ (p:List Seg),(∀ s ∈ p,okSeg s) → (pathB p).length ≤ 1022 * p.length
 | [],_=>by simp [pathB]
 | s :: p,h=>by
   have h1:=pathB_len p (fun t ht=>h t (by simp [ht]))
   have h2:=(h s (by simp)).2.1
   have:pathB (s :: p) = segB s ++ pathB p:=by simp [pathB]
   rw [this,List.length_append,segB,List.length_append,wordsB_len,List.length_cons]
   simp only [List.length_cons,List.length_nil]
   omega
set_option maxHeartbeats 2000000 in
set_option maxRecDepth 10000 in
theorem t44 (p:List Seg) (n:Nat) (hn:p.length = n) (hlen:n < 1000000) (hp:∀ s ∈ p,okSeg s) (B:List Int) :
   CFun Tryz.prog 44 [.ptr 0 0,.sl 2 (p.map encSeg) .sh] [cellsW B] (.sl 1 ((pathB p).map enc8) .sh) [cellsW B]:=by
 refine CFun.intro (tr:=[16,33]) (fz:=[]) (n:=41) (rs:=[.tmp 4]) Tryz.func44 rfl (by kernel_rfl) rfl rfl mixed (by kernel_rfl) (by simp) (by simp) ?_
 simp [hn]
 refine LoopK.intro (tr:=[16,33]) mixed (by kernel_rfl) (fun i:Nat=>[(0,.ptr 0 0),(5,.sl 1 ((pathB (p.take i)).map enc8) .own),(10,.sl 2 (p.map encSeg) .sh),(11,.int .i64 n),(12,.int .i64 i)]) (fun _=>[cellsW B]) (fun i=>i ≤ n) (fun i=>n - i) 0 ?_ ?_ ?_
 · simp
 · simp [pathB]
 · rintro i h1
   by_cases hi:i < n
   · obtain ⟨s,hs,hd⟩:=get_drop (l:=p) (i:=i) (by omega)
     have w1:IntKind.i64.wrap ((i:Int) + 1) = i + 1:=wrap_in (by omega)
     have hok:=hp s (List.mem_of_getElem? hs)
     have e:=pathB_take p i s hs
     have hwl:=pathB_len (p.take i) (fun t ht=>hp t (List.mem_of_mem_take ht))
     have hti:(p.take i).length = i:=by simp; omega
     rw [hti] at hwl
     obtain ⟨⟨k1,k2⟩,⟨k3,k4⟩,k5⟩:=hok
     obtain ⟨K,A⟩:=s
     simp only at e k1 k2 k3 k4 k5
     obtain ⟨m,hm⟩:∃ m,A.length = m:=⟨_,rfl⟩
     rw [hm] at k3 k4 e
     have wK:IntKind.u8.wrap K = K:=by rw [wrap_u8]; omega
     have wm:IntKind.u8.wrap (m:Int) = m:=by rw [wrap_u8]; omega
     generalize pathB (p.take i) = W at *
     have s1:W.length + 2 ≤ 140737488355328:=by omega
     simp [hi,hs,w1,wK,wm,hm,s1]
     refine LoopK.intro (tr:=[16,33]) mixed (by kernel_rfl) (fun j:Nat=>[(0,.ptr 0 0),(5,.sl 1 ((W ++ ([K,(m:Int)] ++ wordsB (A.take j))).map enc8) .own),(10,.sl 2 (p.map encSeg) .sh),(11,.int .i64 n),(12,.int .i64 i),(27,.sl 1 (A.map encI) .sh),(28,.int .i64 m),(29,.int .i64 j)]) (fun _=>[cellsW B]) (fun j=>j ≤ m) (fun j=>m - j) 0 ?_ ?_ ?_
     · simp
     · simp [wordsB]
     · rintro j j1
       by_cases hj:j < m
       · obtain ⟨y,hy,hd2⟩:=get_drop (l:=A) (i:=j) (by omega)
         have w2:IntKind.i64.wrap ((j:Int) + 1) = j + 1:=wrap_in (by omega)
         have hin:=k5 y (List.mem_of_getElem? hy)
         have h46:=t46 y hin B
         have e2:=wordsB_take A j y hy
         have hwl2:=wordsB_len (A.take j)
         have htj:(A.take j).length = j:=by simp; omega
         rw [htj] at hwl2
         have hb4:=numB_len 4 y
         generalize wordsB (A.take j) = V at *
         generalize numB 4 y = N at *
         have s2:W.length + (V.length + 1 + 1) + N.length ≤ 140737488355328:=by omega
         simp [hj,hy,w2]
         refine ⟨_,_,.inl (by simpa using h46),by simp,?_⟩
         simp [s2,w2]
         exact ⟨j + 1,by omega,by omega,by simp [e2]⟩
       · have hjm:j = m:=by omega
         have e2:A.take j = A:=List.take_of_length_le (by omega)
         simp [hj,e2,w1]
         exact ⟨i + 1,by omega,by omega,by simp [e]⟩
   · have hin:i = n:=by omega
     have e:p.take i = p:=List.take_of_length_le (by omega)
     simp [hi,e]
end Go.Proofs.YtapgoboiljjecaaGreatDoor

/- One attribute is written. -/
namespace Go.Proofs.YtapgoboiljjecaaGreatDoor
open Go Go.Am
set_option linter.unusedSimpArgs false
theorem flg_vals {k:Int} (h:0 ≤ k):flg k = 224 ∨ flg k = 64 ∨ flg k = 128 ∨ flg k = 192:=by
 by_cases hk:10 < k
 · rw [flg_big hk]; simp
 · obtain ⟨n,rfl⟩:∃ n:Nat,k = n:=⟨k.toNat,by omega⟩
   have:n = 0 ∨ n = 1 ∨ n = 2 ∨ n = 3 ∨ n = 4 ∨ n = 5 ∨ n = 6 ∨ n = 7 ∨ n = 8 ∨ n = 9 ∨ n = 10:=by omega
   rcases this with rfl | rfl | rfl | rfl | rfl | rfl | rfl | rfl | rfl | rfl | rfl <;> simp [flg]
def tr43:List Nat:=[15,26,51,67,1000026,1000051]
set_option maxHeartbeats 2000000 in
set_option maxRecDepth 10000 in
theorem t43 (k:Int) (hk:0 ≤ k ∧ k ≤ 255) (ps:List (List Int)) (n:Nat) (hn:ps.length = n) (hn2:n ≤ 1000) (hV:ps.flatten.length ≤ 65535) (B:List Int) (hB:B.length ≤ 1000000000000) :
   CFun Tryz.prog 43 [.ptr 0 0,.int .i64 k,.sl 1 (ps.map encBs) .sh] [cellsW B] (.tup []) [cellsW (B ++ tlvB ⟨k,ps.flatten⟩)]:=by
 refine CFun.intro (tr:=tr43) (fz:=[]) (n:=72) (rs:=[]) Tryz.func43 rfl (by kernel_rfl) rfl rfl mixed (by kernel_rfl) (by simp) (by simp) ?_
 unfold tr43
 simp [hn]
 refine LoopK.intro (tr:=[15,26,51,67,1000026,1000051]) mixed (by kernel_rfl) (fun i:Nat=>[(0,.ptr 0 0),(1,.int .i64 k),(6,.sl 1 ((ps.take i).flatten.map enc8) .own),(9,.sl 1 (ps.map encBs) .sh),(10,.int .i64 n),(11,.int .i64 i)]) (fun _=>[cellsW B]) (fun i=>i ≤ n) (fun i=>n - i) 0 ?_ ?_ ?_
 · simp
 · simp
 · rintro i h1
   by_cases hi:i < n
   · obtain ⟨y,hy,hd⟩:=get_drop (l:=ps) (i:=i) (by omega)
     have w1:IntKind.i64.wrap ((i:Int) + 1) = i + 1:=wrap_in (by omega)
     have e:=flat_take ps i y hy
     have hle:=flat_le ps (i + 1)
     rw [e,List.length_append] at hle
     generalize (ps.take i).flatten = W at *
     have s1:W.length + y.length ≤ 140737488355328:=by omega
     simp [hi,hy,w1,s1]
     have e':(List.take (i + 1) (List.map (List.map enc8) ps)).flatten = W.map enc8 ++ y.map enc8:=by
       rw [← List.map_take,← List.map_flatten,e,List.map_append]
     exact ⟨i + 1,by omega,by omega,by simp [e']⟩
   · have hin:i = n:=by omega
     have e:ps.take i = ps:=List.take_of_length_le (by omega)
     have h39:=fun H=>(t39 k hk.1).up' H rfl rfl
     rw [e]
     have wk:IntKind.u8.wrap k = k:=by rw [wrap_u8]; omega
     generalize ps.flatten = V at *
     have hf:=flg_vals hk.1
     have hor:IntKind.u8.wrap (((flg k % 2 ^ IntKind.u8.bits).toNat ||| 16 % 2 ^ IntKind.u8.bits:Nat):Int) = flg k + 16:=by
       rcases hf with h | h | h | h <;> rw [h] <;> decide
     unfold tlvB
     simp only
     by_cases hl:255 < V.length
     · have hl':(255:Int) < V.length:=by omega
       have wl:IntKind.u64.wrap (V.length:Int) = V.length:=by rw [wrap_u64]; omega
       have s1:B.length + 2 ≤ 140737488355328:=by omega
       have h21:=fun H=>(c88 (B ++ [flg k + 16,k]) (by simp; omega) 2 (by omega) (V.length:Int)).up' H rfl rfl
       have hn2:=numB_len 2 (V.length:Int)
       generalize numB 2 (V.length:Int) = N at *
       have s2:B.length + (N.length + 1 + 1) + V.length ≤ 140737488355328:=by omega
       generalize flg k = q at *
       simp [hi,hl,hl']
       refine ⟨_,_,.inl (by simpa using h39 _),by simp,?_⟩
       simp [hor,wk,s1,wl]
       refine ⟨_,_,.inl (by simpa using h21 _),by simp,?_⟩
       simp [s2]
     · have hl':¬ (255:Int) < V.length:=by omega
       have wl:IntKind.u8.wrap (V.length:Int) = V.length:=by rw [wrap_u8]; omega
       have s1:B.length + 3 ≤ 140737488355328:=by omega
       have s2:B.length + (1 + 1 + 1) + V.length ≤ 140737488355328:=by omega
       generalize flg k = q at *
       simp [hi,hl,hl']
       refine ⟨_,_,.inl (by simpa using h39 _),by simp,?_⟩
       simp [hor,wk,s1,wl,s2]
@[simp] def encFs (b:List Int):AVal:=.sl 1 (b.map enc8) .full
set_option maxHeartbeats 2000000 in
set_option maxRecDepth 10000 in
theorem t43f (k:Int) (hk:0 ≤ k ∧ k ≤ 255) (ps:List (List Int)) (n:Nat) (hn:ps.length = n) (hn2:n ≤ 1000) (hV:ps.flatten.length ≤ 65535) (B:List Int) (hB:B.length ≤ 1000000000000) :
   CFun Tryz.prog 43 [.ptr 0 0,.int .i64 k,.sl 1 (ps.map encFs) .sh] [cellsW B] (.tup []) [cellsW (B ++ tlvB ⟨k,ps.flatten⟩)]:=by
 refine CFun.intro (tr:=tr43) (fz:=[]) (n:=72) (rs:=[]) Tryz.func43 rfl (by kernel_rfl) rfl rfl mixed (by kernel_rfl) (by simp) (by simp) ?_
 unfold tr43
 simp [hn]
 refine LoopK.intro (tr:=[15,26,51,67,1000026,1000051]) mixed (by kernel_rfl) (fun i:Nat=>[(0,.ptr 0 0),(1,.int .i64 k),(6,.sl 1 ((ps.take i).flatten.map enc8) .own),(9,.sl 1 (ps.map encFs) .sh),(10,.int .i64 n),(11,.int .i64 i)]) (fun _=>[cellsW B]) (fun i=>i ≤ n) (fun i=>n - i) 0 ?_ ?_ ?_
 · simp
 · simp
 · rintro i h1
   by_cases hi:i < n
   · obtain ⟨y,hy,hd⟩:=get_drop (l:=ps) (i:=i) (by omega)
     have w1:IntKind.i64.wrap ((i:Int) + 1) = i + 1:=wrap_in (by omega)
     have e:=flat_take ps i y hy
     have hle:=flat_le ps (i + 1)
     rw [e,List.length_append] at hle
     generalize (ps.take i).flatten = W at *
     have s1:W.length + y.length ≤ 140737488355328:=by omega
     simp [hi,hy,w1,s1]
     have e':(List.take (i + 1) (List.map (List.map enc8) ps)).flatten = W.map enc8 ++ y.map enc8:=by
       rw [← List.map_take,← List.map_flatten,e,List.map_append]
     exact ⟨i + 1,by omega,by omega,by simp [e']⟩
   · have hin:i = n:=by omega
     have e:ps.take i = ps:=List.take_of_length_le (by omega)
     have h39:=fun H=>(t39 k hk.1).up' H rfl rfl
     rw [e]
     have wk:IntKind.u8.wrap k = k:=by rw [wrap_u8]; omega
     generalize ps.flatten = V at *
     have hf:=flg_vals hk.1
     have hor:IntKind.u8.wrap (((flg k % 2 ^ IntKind.u8.bits).toNat ||| 16 % 2 ^ IntKind.u8.bits:Nat):Int) = flg k + 16:=by
       rcases hf with h | h | h | h <;> rw [h] <;> decide
     unfold tlvB
     simp only
     by_cases hl:255 < V.length
     · have hl':(255:Int) < V.length:=by omega
       have wl:IntKind.u64.wrap (V.length:Int) = V.length:=by rw [wrap_u64]; omega
       have s1:B.length + 2 ≤ 140737488355328:=by omega
       have h21:=fun H=>(c88 (B ++ [flg k + 16,k]) (by simp; omega) 2 (by omega) (V.length:Int)).up' H rfl rfl
       have hn2:=numB_len 2 (V.length:Int)
       generalize numB 2 (V.length:Int) = N at *
       have s2:B.length + (N.length + 1 + 1) + V.length ≤ 140737488355328:=by omega
       generalize flg k = q at *
       simp [hi,hl,hl']
       refine ⟨_,_,.inl (by simpa using h39 _),by simp,?_⟩
       simp [hor,wk,s1,wl]
       refine ⟨_,_,.inl (by simpa using h21 _),by simp,?_⟩
       simp [s2]
     · have hl':¬ (255:Int) < V.length:=by omega
       have wl:IntKind.u8.wrap (V.length:Int) = V.length:=by rw [wrap_u8]; omega
       have s1:B.length + 3 ≤ 140737488355328:=by omega
       have s2:B.length + (1 + 1 + 1) + V.length ≤ 140737488355328:=by omega
       generalize flg k = q at *
       simp [hi,hl,hl']
       refine ⟨_,_,.inl (by simpa using h39 _),by simp,?_⟩
       simp [hor,wk,s1,wl,s2]
end Go.Proofs.YtapgoboiljjecaaGreatDoor
