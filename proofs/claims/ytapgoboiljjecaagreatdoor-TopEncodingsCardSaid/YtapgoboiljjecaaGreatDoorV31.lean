/- Prefixes are written; the body of an open message. -/
import Derived.Test.YtapgoboiljjecaaGreatDoorV22
set_option linter.unusedSimpArgs false
set_option linter.unusedVariables false
namespace Go.Proofs.YtapgoboiljjecaaGreatDoor
open Go Go.Am
set_option linter.unusedSimpArgs false
theorem presB_take (l:List Pre) (i:Nat) (p:Pre) (h:l[i]? = some p):presB (l.take (i + 1)) = presB (l.take i) ++ preB p:=by
 rw [List.take_add_one,h,Option.toList_some,presB_app]
 simp [presB]
theorem preB_len (p:Pre):(preB p).length ≤ 5:=by
 unfold preB
 simp [numB_len]
 omega
theorem presB_len:∀ (l:List Pre),(presB l).length ≤ 5 * l.length
 | []=>by simp [presB]
 | p :: l=>by
   have h1:=presB_len l
   have h2:=preB_len p
   have:presB (p :: l) = preB p ++ presB l:=by simp [presB]
   rw [this,List.length_append,List.length_cons]
   omega
set_option maxHeartbeats 4000000 in
set_option maxRecDepth 20000 in
theorem t94 (l:List Pre) (n:Nat) (hn:l.length = n) (hlen:n ≤ 1000000) (hp:∀ p ∈ l,okPre p):CFun Tryz.prog 94 [.sl 2 (l.map encPre) .sh] [] (.sl 1 ((presB l).map enc8) .sh) []:=by
 refine CFun.intro (tr:=[12,18]) (fz:=[]) (n:=31) (rs:=[.tmp 2]) Tryz.func94 rfl (by kernel_rfl) rfl rfl mixed (by kernel_rfl) (by simp) (by simp) ?_
 simp [hn]
 refine LoopK.intro (tr:=[12,18]) mixed (by kernel_rfl) (fun i:Nat=>[(3,.sl 1 ((presB (l.take i)).map enc8) .own),(6,.sl 2 (l.map encPre) .sh),(7,.int .i64 n),(8,.int .i64 i)]) (fun _=>[]) (fun i=>i ≤ n) (fun i=>n - i) 0 ?_ ?_ ?_
 · simp
 · simp [presB]
 · rintro i i1
   by_cases hi:i < n
   · obtain ⟨p,hpi,hd⟩:=get_drop (l:=l) (i:=i) (by omega)
     have w1:IntKind.i64.wrap ((i:Int) + 1) = i + 1:=wrap_in (by omega)
     have hok:=hp p (List.mem_of_getElem? hpi)
     have e:=presB_take l i p hpi
     have hwl:=presB_len (l.take i)
     have hti:(l.take i).length = i:=by simp; omega
     rw [hti] at hwl
     obtain ⟨A,N⟩:=p
     obtain ⟨hA,hN1,hN2⟩:=hok
     simp only at hA hN1 hN2
     unfold preB at e
     simp only at e
     obtain ⟨s,hs⟩:∃ s,((N + 7) / 8).toNat = s:=⟨_,rfl⟩
     have hs1:(N + 7).tdiv 8 = s:=by rw [Int.tdiv_eq_ediv_of_nonneg (by omega)]; omega
     have hs4:s ≤ 4:=by omega
     rw [hs] at e
     have wN:IntKind.u8.wrap N = N:=by rw [wrap_u8]; omega
     have w7:IntKind.i64.wrap (N + 7) = N + 7:=wrap_in (by omega)
     have w8:IntKind.i64.wrap (s:Int) = s:=wrap_in (by omega)
     have wA:=u64_in hA
     have h21:=fun H=>(put0 4 (by omega) A).up' H rfl rfl
     have hv4:=numB_len 4 A
     generalize presB (l.take i) = W at *
     generalize numB 4 A = V at *
     have s1:W.length + 1 ≤ 140737488355328:=by omega
     have s2:W.length + 1 + s ≤ 140737488355328:=by omega
     have s3:(s:Int) ≤ 4:=by omega
     have s4:min s 4 = s:=by omega
     simp [hi,hpi,wN,s1,wA]
     refine ⟨_,_,.inl (by simpa using h21 _),by simp,?_⟩
     simp [w7,hs1,w8,hv4,s3,s4,hs4,s2,w1]
     exact ⟨i + 1,by omega,by omega,by simp [e],by simp⟩
   · have hin:i = n:=by omega
     have e:l.take i = l:=List.take_of_length_le (by omega)
     simp [hi,e]
theorem capsB_take (l:List Cap) (i:Nat) (c:Cap) (h:l[i]? = some c):capsB (l.take (i + 1)) = capsB (l.take i) ++ ([c.Code,(c.Val.length:Int)] ++ c.Val):=by
 rw [List.take_add_one,h,Option.toList_some,capsB_app]
 simp [capsB,capB]
theorem capsB_le (l:List Cap) (i:Nat):(capsB (l.take i)).length ≤ (capsB l).length:=by
 have:=congrArg (fun l=>(capsB l).length) (List.take_append_drop i l)
 simp only [capsB_app,List.length_append] at this
 omega
def openB (m:Msg):List Int :=
 [m.Ver] ++ numB 2 (shortI m.AS) ++ numB 2 m.Hold ++ numB 4 m.Rtr ++ (if (capsB m.Caps).length = 0 then [0] else [((capsB m.Caps).length:Int) + 2,2,((capsB m.Caps).length:Int)] ++ capsB m.Caps)
set_option maxHeartbeats 8000000 in
set_option maxRecDepth 20000 in
theorem t36 (m:Msg) (hV:0 ≤ m.Ver ∧ m.Ver ≤ 255) (hA:in32 (shortI m.AS)) (hH:in32 m.Hold) (hR:in32 m.Rtr) (hlen:m.Caps.length ≤ 65535) (hc:∀ c ∈ m.Caps,okCap c) (hsz:(capsB m.Caps).length ≤ 253) :
   CFun Tryz.prog 36 [encM m] [] (encBs (openB m)) []:=by
 refine CFun.intro (tr:=[34,44,52,55,65]) (fz:=[]) (n:=68) (rs:=[.tmp 2]) Tryz.func36 rfl (by kernel_rfl) rfl rfl mixed (by kernel_rfl) (by simp) (by simp) ?_
 have wV:IntKind.u8.wrap m.Ver = m.Ver:=by rw [wrap_u8]; omega
 have wA:=u64_in hA
 have wH:=u64_in hH
 have wR:=u64_in hR
 have h87:=fun H=>(t87 m.AS).up' H rfl rfl
 have h1:=fun H=>((c88 [m.Ver] (by simp) 2 (by omega) (shortI m.AS)).wk [.sl 1 [.int .u8 m.Ver] .full,.int .i64 2,.int .u64 (shortI m.AS)] (by simp) ⟨whole,rfl,rfl,trivial⟩).up' H rfl rfl
 have h2:=fun H=>(c88 ([m.Ver] ++ numB 2 (shortI m.AS)) (by simp [numB_len]) 2 (by omega) m.Hold).up' H rfl rfl
 have h3:=fun H=>(c88 ([m.Ver] ++ numB 2 (shortI m.AS) ++ numB 2 m.Hold) (by simp [numB_len]) 4 (by omega) m.Rtr).up' H rfl rfl
 have hHl:([m.Ver] ++ numB 2 (shortI m.AS) ++ numB 2 m.Hold ++ numB 4 m.Rtr).length = 9:=by simp [numB_len]
 obtain ⟨n,hn⟩:∃ n,m.Caps.length = n:=⟨_,rfl⟩
 have hct:=capsB_take m.Caps
 have hcl:=capsB_le m.Caps
 unfold openB
 generalize shortI m.AS = sa at *
 generalize numB 2 sa = N1 at *
 generalize numB 2 m.Hold = N2 at *
 generalize numB 4 m.Rtr = N3 at *
 simp
 simp [wV]
 refine ⟨_,_,.inl (by simpa using h87 _),by simp,?_⟩
 simp [wA]
 refine ⟨_,_,.inl (by simpa using h1 _),by simp,?_⟩
 simp [wH]
 refine ⟨_,_,.inl (by simpa using h2 _),by simp,?_⟩
 simp [wR]
 refine ⟨_,_,.inl (by simpa using h3 _),by simp,?_⟩
 simp [hn]
 obtain ⟨B,hB⟩:∃ B,[m.Ver] ++ N1 ++ N2 ++ N3 = B:=⟨_,rfl⟩
 have hBm:B.map enc8 = .int .u8 m.Ver :: (N1.map enc8 ++ (N2.map enc8 ++ N3.map enc8)):=by rw [← hB]; simp
 have hBe:m.Ver :: (N1 ++ (N2 ++ N3)) = B:=by rw [← hB]; simp
 rw [hB] at hHl
 have hE:∀ X,.int .u8 m.Ver :: (N1.map enc8 ++ (N2.map enc8 ++ (N3.map enc8 ++ X))) = B.map enc8 ++ X:=fun X=>by rw [hBm]; simp
 refine LoopK.intro (tr:=[34,44,52,55,65]) mixed (by kernel_rfl) (fun i:Nat=>[(3,.sl 1 (B.map enc8) .own),(4,.sl 1 ((capsB (m.Caps.take i)).map enc8) .own),(28,.sl 2 (m.Caps.map encCap) .sh),(29,.int .i64 n),(30,.int .i64 i)]) (fun _=>[]) (fun i=>i ≤ n) (fun i=>n - i) 0 ?_ ?_ ?_
 · simp
 · simp [hBm,capsB]
 · rintro i i1
   by_cases hi:i < n
   · obtain ⟨t,ht,hd⟩:=get_drop (l:=m.Caps) (i:=i) (by omega)
     have w1:IntKind.i64.wrap ((i:Int) + 1) = i + 1:=wrap_in (by omega)
     have hok:=hc t (List.mem_of_getElem? ht)
     have e:=hct i t ht
     have hle:=hcl i
     obtain ⟨K,V⟩:=t
     obtain ⟨hK,hV1,hV2⟩:=hok
     simp only at hK hV2 e
     have wK:IntKind.u8.wrap K = K:=by rw [wrap_u8]; omega
     have wl:IntKind.u8.wrap (V.length:Int) = V.length:=by rw [wrap_u8]; omega
     generalize capsB (m.Caps.take i) = W at *
     have s1:W.length + 2 ≤ 140737488355328:=by omega
     have s2:W.length + (1 + 1) + V.length ≤ 140737488355328:=by omega
     simp [hi,ht,wK,wl,s1,s2,w1]
     exact ⟨i + 1,by omega,by omega,by simp [e],by simp⟩
   · have hin:i = n:=by omega
     have e:m.Caps.take i = m.Caps:=List.take_of_length_le (by omega)
     rw [e]
     generalize capsB m.Caps = W at *
     obtain ⟨w,hw⟩:∃ w,W.length = w:=⟨_,rfl⟩
     rw [hw] at hsz
     have s1:B.length + 1 ≤ 140737488355328:=by omega
     have s2:B.length + 3 ≤ 140737488355328:=by omega
     by_cases h0:w = 0
     · have h0':(w:Int) = 0:=by omega
       have hW0:W = []:=List.eq_nil_of_length_eq_zero (by omega)
       simp [hi,hw,h0,h0',s1,hE,hBe]
       simp [hW0]
     · have h0':¬ (w:Int) = 0:=by omega
       have w2:IntKind.i64.wrap ((w:Int) + 2) = w + 2:=wrap_in (by omega)
       have w3:IntKind.u8.wrap ((w:Int) + 2) = w + 2:=by rw [wrap_u8]; omega
       have w4:IntKind.u8.wrap (w:Int) = w:=by rw [wrap_u8]; omega
       have s3:B.length + (1 + 1 + 1) + w ≤ 140737488355328:=by omega
       have hW0:¬ W = []:=by intro e0; rw [e0] at hw; simp at hw; omega
       simp [hi,hw,h0,h0',s2,s3,w2,w3,w4,hE,hBe,hW0]
end Go.Proofs.YtapgoboiljjecaaGreatDoor

/- The body of an update. -/
namespace Go.Proofs.YtapgoboiljjecaaGreatDoor
open Go Go.Am
set_option linter.unusedSimpArgs false
def updB (m:Msg):List Int :=
 numB 2 (presB m.Wd).length ++ presB m.Wd ++ numB 2 (if 0 < m.Rc.length then attsB m.At else []).length ++ (if 0 < m.Rc.length then attsB m.At else []) ++ presB m.Rc
set_option maxHeartbeats 8000000 in
set_option maxRecDepth 20000 in
theorem t37 (m:Msg) (hw:m.Wd.length ≤ 65535) (hr:m.Rc.length ≤ 65535) (hpw:∀ p ∈ m.Wd,okPre p) (hpr:∀ p ∈ m.Rc,okPre p) (hwl:(presB m.Wd).length ≤ 65535) (ha:m.Rc ≠ [] → okAtt m.At ∧ chkAt m.At = 0 ∧ (attsB m.At).length ≤ 65535) :
   CFun Tryz.prog 37 [encM m,.bool true] [] (.tup [encBs (updB m),.int .i64 0]) []:=by
 refine CFun.intro (tr:=[50]) (fz:=[]) (n:=55) (rs:=[.tmp 4,.tmp 5]) Tryz.func37 rfl (by kernel_rfl) rfl rfl mixed (by kernel_rfl) (by simp) (by simp) ?_
 obtain ⟨r,hrn⟩:∃ r,m.Rc.length = r:=⟨_,rfl⟩
 have h94a:=fun H=>(t94 m.Wd m.Wd.length rfl (by omega) hpw).up' H rfl rfl
 have h94b:=fun H=>(t94 m.Rc m.Rc.length rfl (by omega) hpr).up' H rfl rfl
 have hrl:=presB_len m.Rc
 unfold updB
 rw [hrn]
 rw [hrn] at hrl hr
 have h13:=fun (h:0 < r) H=>(t13 m.At (ha (by rintro e; rw [e] at hrn; simp at hrn; omega)).1 (ha (by rintro e; rw [e] at hrn; simp at hrn; omega)).2.1 (ha (by rintro e; rw [e] at hrn; simp at hrn; omega)).2.2).up' H rfl rfl
 have hal:=fun (h:0 < r)=>(ha (by rintro e; rw [e] at hrn; simp at hrn; omega)).2.2
 generalize hA:attsB m.At = A at *
 generalize presB m.Wd = W at *
 generalize presB m.Rc = Q at *
 obtain ⟨w,hwn⟩:∃ w,W.length = w:=⟨_,rfl⟩
 rw [hwn] at hwl
 have n1:=numB_len 2 (W.length:Int)
 have wW:IntKind.u64.wrap (w:Int) = w:=by rw [wrap_u64]; omega
 have e1:¬ (65535:Int) < w:=by omega
 have e1n:¬ 65535 < w:=by omega
 have hp1:=fun H=>(put0 2 (by omega) (w:Int)).up' H rfl rfl
 rw [hwn] at n1 ⊢
 generalize numB 2 (w:Int) = N1 at *
 by_cases h0:0 < r
 · have h0':(0:Int) < r:=by omega
   have hal':=hal h0
   rw [if_pos h0]
   obtain ⟨a,han⟩:∃ a,A.length = a:=⟨_,rfl⟩
   rw [han] at hal'
   rw [han]
   have wA:IntKind.u64.wrap (a:Int) = a:=by rw [wrap_u64]; omega
   have e2:¬ (65535:Int) < a:=by omega
   have e2n:¬ 65535 < a:=by omega
   have hp2:=fun H=>(c88 (N1 ++ W) (by simp; omega) 2 (by omega) (a:Int)).up' H rfl rfl
   have n2:=numB_len 2 (a:Int)
   generalize numB 2 (a:Int) = N2 at *
   have s1:N1.length + w ≤ 140737488355328:=by omega
   have s2:N1.length + (w + N2.length) + a ≤ 140737488355328:=by omega
   have s3:N1.length + (w + (N2.length + a)) + Q.length ≤ 140737488355328:=by omega
   simp
   refine ⟨_,_,.inl (by simpa using h94a _),by simp,?_⟩
   simp [hrn,h0,h0']
   refine ⟨_,_,.inl (by simpa [encAt] using h13 h0 _),by simp,?_⟩
   simp [hwn,han,e1,e1n,e2,e2n,wW]
   refine ⟨_,_,.inl (by simpa using hp1 _),by simp,?_⟩
   simp [hwn,han,s1,wA]
   refine ⟨_,_,.inl (by simpa using hp2 _),by simp,?_⟩
   simp [hwn,han,s2]
   refine ⟨_,_,.inl (by simpa using h94b _),by simp,?_⟩
   simp [hwn,han,s3]
 · have h0':¬ (0:Int) < r:=by omega
   rw [if_neg h0]
   have hp2:=fun H=>(c88 (N1 ++ W) (by simp; omega) 2 (by omega) (0:Int)).up' H rfl rfl
   have n2:=numB_len 2 (0:Int)
   rw [show (([]:List Int).length:Int) = 0 from rfl]
   generalize numB 2 (0:Int) = N2 at *
   have w0:IntKind.u64.wrap 0 = 0:=rfl
   have s1:N1.length + w ≤ 140737488355328:=by omega
   have s2:N1.length + (w + N2.length) ≤ 140737488355328:=by omega
   have s3:N1.length + (w + N2.length) + Q.length ≤ 140737488355328:=by omega
   simp
   refine ⟨_,_,.inl (by simpa using h94a _),by simp,?_⟩
   simp [hrn,h0,h0',hwn,e1,e1n,wW]
   refine ⟨_,_,.inl (by simpa using hp1 _),by simp,?_⟩
   simp [hwn,s1,w0]
   refine ⟨_,_,.inl (by simpa using hp2 _),by simp,?_⟩
   simp [hwn,s2]
   refine ⟨_,_,.inl (by simpa using h94b _),by simp,?_⟩
   simp [hwn,s3]
end Go.Proofs.YtapgoboiljjecaaGreatDoor

/- Messages are encoded. -/
namespace Go.Proofs.YtapgoboiljjecaaGreatDoor
open Go Go.Am
set_option linter.unusedSimpArgs false
def bodyM (m:Msg):List Int:=if m.Kind = 1 then openB m else if m.Kind = 2 then updB m else if m.Kind = 3 then [m.Code,m.Sub] ++ m.Data else if m.Kind = 5 then [0,1,0,1] else []
def msgB (m:Msg):List Int:=List.replicate 16 255 ++ numB 2 (19 + (bodyM m).length:Nat) ++ [m.Kind] ++ bodyM m
theorem fill_set (c i:Nat) (h:i < c):(List.replicate i (AVal.int .u8 255) ++ List.replicate (c - i) (AVal.int .u8 0)).set i (.int .u8 255) = List.replicate (i + 1) (AVal.int .u8 255) ++ List.replicate (c - (i + 1)) (AVal.int .u8 0):=by
 rw [List.set_append_right _ _ (by simp)]
 obtain ⟨d,hd⟩:∃ d,c - i = d + 1:=⟨c - i - 1,by omega⟩
 have e:c - (i + 1) = d:=by omega
 rw [hd,e,List.length_replicate,Nat.sub_self,List.replicate_succ,List.set_cons_zero,List.replicate_succ',List.append_assoc]
 rfl
structure okE (m:Msg):Prop where
  c:okC m
  chk:chkM m = 0
  opn:m.Kind = 1 → (0 ≤ m.Ver ∧ m.Ver ≤ 255) ∧ in32 (shortI m.AS) ∧ in32 m.Hold ∧ in32 m.Rtr ∧ (∀ c ∈ m.Caps,okCap c) ∧ (capsB m.Caps).length ≤ 253
  upd:m.Kind = 2 → (∀ p ∈ m.Wd,okPre p) ∧ (∀ p ∈ m.Rc,okPre p) ∧ (presB m.Wd).length ≤ 65535 ∧ (m.Rc ≠ [] → okAtt m.At ∧ chkAt m.At = 0 ∧ (attsB m.At).length ≤ 65535)
  note:m.Kind = 3 → (0 ≤ m.Code ∧ m.Code ≤ 255) ∧ (0 ≤ m.Sub ∧ m.Sub ≤ 255)
  kind:1 ≤ m.Kind ∧ m.Kind ≤ 5
  len:19 + (bodyM m).length ≤ 65535
set_option maxHeartbeats 16000000 in
set_option maxRecDepth 20000 in
theorem t11 (m:Msg) (h:okE m):CFun Tryz.prog 11 [encM m,.bool true] [] (.tup [encBs (msgB m),.int .i64 0]) []:=by
 refine CFun.introS (fz:=[]) (n:=82) (rs:=[.tmp 4,.tmp 5]) Tryz.func11 rfl (by kernel_rfl) rfl rfl (by simp) (by simp) ?_
 have h35:=fun H=>(t35 m h.c).up' H rfl rfl
 rw [h.chk] at h35
 refine SWp_cut (tr:=[]) mixed (by kernel_rfl) [(1,.bool true),(2,.ptr 0 0)] [cellsM m] ?_ ?_
 · simp
 refine SWp_cut (tr:=[]) mixed (by kernel_rfl) [(1,.bool true),(2,.ptr 0 0)] [cellsM m] ?_ ?_
 · simp
   refine ⟨_,_,.inl (by simpa using h35 _),by simp,?_⟩
   simp
 refine SWp_cut (tr:=[]) mixed (by kernel_rfl) [(1,.bool true),(2,.ptr 0 0),(7,.sl 1 [] .sh)] [cellsM m] ?_ ?_
 · simp
 refine SWp_cut (tr:=[]) mixed (by kernel_rfl) [(2,.ptr 0 0),(7,encBs (bodyM m))] [cellsM m] ?_ ?_
 · unfold bodyM
   by_cases k1:m.Kind = 1
   · obtain ⟨o1,o2,o3,o4,o5,o6⟩:=h.opn k1
     have h36:=fun H=>(t36 m o1 o2 o3 o4 h.c.sz.caps o5 o6).up' H rfl rfl
     rw [if_pos k1]
     simp [k1]
     refine ⟨_,_,.inl (by simpa [k1] using h36 _),by simp,?_⟩
     simp [k1]
   rw [if_neg k1]
   by_cases k2:m.Kind = 2
   · obtain ⟨o1,o2,o3,o4⟩:=h.upd k2
     have h37:=fun H=>(t37 m h.c.sz.wd h.c.sz.rc o1 o2 o3 o4).up' H rfl rfl
     rw [if_pos k2]
     simp [k2]
     refine ⟨_,_,.inl (by simpa [k2] using h37 _),by simp,?_⟩
     simp [k2]
   rw [if_neg k2]
   by_cases k3:m.Kind = 3
   · obtain ⟨o1,o2⟩:=h.note k3
     have hl:=h.len
     unfold bodyM at hl
     rw [if_neg k1,if_neg k2,if_pos k3] at hl
     rw [if_pos k3]
     have w1:IntKind.u8.wrap m.Code = m.Code:=by rw [wrap_u8]; omega
     have w2:IntKind.u8.wrap m.Sub = m.Sub:=by rw [wrap_u8]; omega
     have s1:2 + m.Data.length ≤ 140737488355328:=by simp at hl; omega
     simp [k3,w1,w2,s1]
   rw [if_neg k3]
   by_cases k5:m.Kind = 5
   · rw [if_pos k5]
     simp [k5]
   · rw [if_neg k5]
     simp [k1,k2,k3,k5]
 have hl:=h.len
 have hk:=h.kind
 have wk:IntKind.u8.wrap m.Kind = m.Kind:=by rw [wrap_u8]; omega
 clear h35 h
 unfold msgB
 generalize bodyM m = B at *
 obtain ⟨L,hL⟩:∃ L,B.length = L:=⟨_,rfl⟩
 rw [hL] at hl ⊢
 have wL:IntKind.i64.wrap (19 + (L:Int)) = 19 + L:=wrap_in (by omega)
 have wU:IntKind.u64.wrap (19 + (L:Int)) = 19 + L:=by rw [wrap_u64]; omega
 have e1:¬ (65535:Int) < 19 + L:=by omega
 have hput:=fun H=>(c88 (List.replicate 16 255) (by simp) 2 (by omega) (19 + (L:Int))).up' H rfl rfl
 have hn2:=numB_len 2 (19 + (L:Int))
 rw [show ((19 + L:Nat):Int) = 19 + (L:Int) by omega]
 generalize numB 2 (19 + (L:Int)) = N2 at *
 refine SWp_of (tr:=[100057,26000010000002,73,79]) mixed (by kernel_rfl) ?_
 have z1:(16:Int) < 19 + L:=by omega
 have z2:¬ (16:Int) = 19 + L:=by omega
 have z3:¬ (19:Int) + L = 0:=by omega
 have z4:(19 + (L:Int)).toNat = 19 + L:=by omega
 have z5:19 + L ≤ 281474976710656:=by omega
 have z6:19 + (L:Int) ≤ 9223372036854775807:=by omega
 simp [hL,wL,e1,z1,z2,z3,z4,z5,z6]
 have hfs:=fill_set (19 + L)
 have hch:chunk false [AVal.int .u8 255,.int .u8 255,.int .u8 255,.int .u8 255,.int .u8 255,.int .u8 255,.int .u8 255,.int .u8 255,.int .u8 255,.int .u8 255,.int .u8 255,.int .u8 255,.int .u8 255,.int .u8 255,.int .u8 255,.int .u8 255] 0 1 16 = (List.replicate 16 255).map enc8:=rfl
 refine LoopK.intro (tr:=[100057,26000010000002,73,79]) mixed (by kernel_rfl) (fun i:Nat=>[(2,.ptr 0 0),(7,encBs B),(10,.osl 1 0 16 (some (19 + L)) 1),(59,.int .i64 16),(60,.int .i64 i)]) (fun i=>[cellsM m,List.replicate i (.int .u8 255) ++ List.replicate (19 + L - i) (.int .u8 0)]) (fun i=>i ≤ 16) (fun i=>16 - i) 0 ?_ ?_ ?_
 · simp
 · have hle:LeCells 2 (List.replicate (19 + L) (AVal.int .u8 0)) (List.replicate (19 + L) (AVal.int .u8 0)):=treeCells_le 2 (by simp [AVal.tree])
   simp [rep1,hle]
 · rintro i i1
   by_cases hi:i < 16
   · have w1:IntKind.i64.wrap ((i:Int) + 1) = i + 1:=wrap_in (by omega)
     have hset:=hfs i (by omega)
     have hle:LeCells 2 (List.replicate (i + 1) (AVal.int .u8 255) ++ List.replicate (19 + L - (i + 1)) (.int .u8 0)) (List.replicate (i + 1) (AVal.int .u8 255) ++ List.replicate (19 + L - (i + 1)) (.int .u8 0)):=treeCells_le 2 (by simp [AVal.tree])
     have hi':(i:Int) < 16:=by omega
     have hb:i + 1 ≤ i + (19 + L - i):=by omega
     rw [List.set_append_right _ _ (by simp),List.length_replicate,Nat.sub_self] at hset
     simp [hi,hi',w1,hb]
     exact ⟨i + 1,by omega,by omega,by omega,by rw [hset]; exact hle⟩
   · have e:i = 16:=by omega
     subst e
     have s1:16 + N2.length + 1 ≤ 140737488355328:=by omega
     have s2:16 + (N2.length + 1) + L ≤ 140737488355328:=by omega
     simp [hL,hch,wL,wU]
     refine ⟨_,_,.inl (by simpa using hput _),by simp,?_⟩
     have s3:19 + L ≤ 140737488355328:=by omega
     simp [hn2,wk,hL,s3]
end Go.Proofs.YtapgoboiljjecaaGreatDoor

/- Open messages are decoded. -/
namespace Go.Proofs.YtapgoboiljjecaaGreatDoor
open Go Go.Am
set_option linter.unusedSimpArgs false
def capsOf (r:List Int) (size:Int):List Cap × Bool :=
 if (r.length:Int) ≠ size then ([],false) else if size ≤ 0 then ([],true) else if r.length < 2 then ([],false) else if r.getD 0 0 ≠ 2 then ([],false) else if r.getD 1 0 ≠ size - 2 then ([],false)
 else ((rdCaps (r.drop 2) []).2.1,(rdCaps (r.drop 2) []).2.2)
def asOf (two:Int):List Cap → Int
 | []=>two
 | c :: cs=>if c.Code = 65 ∧ c.Val.length = 4 then numAt c.Val 0 4 else asOf two cs
def openMsg (v a h r:Int) (caps:List Cap):Msg:={ msg0 with Kind:=1,Ver:=v,AS:=a,Hold:=h,Rtr:=r,Caps:=caps }
def opM (b:List Int):Msg:=openMsg (b.getD 0 0) (asOf (numAt b 1 2) (capsOf (b.drop 10) (b.getD 9 0)).1) (numAt b 3 2) (numAt b 5 4) (capsOf (b.drop 10) (b.getD 9 0)).1
def subO (m:Msg):Int:=if m.AS < 1 ∨ 4294967295 < m.AS then 2 else if chkM m = 21 then 6 else if m.Rtr = 0 then 3 else 4
def decOpen (b:List Int):Msg × Msg × Int :=
 if b.getD 0 0 ≠ 4 then (msg0,noteM 2 1 [0,4],12) else if (capsOf (b.drop 10) (b.getD 9 0)).2 = false then (msg0,noteM 2 4 [],2)
 else if numAt b 1 2 ≠ shortI (opM b).AS then (msg0,noteM 2 2 [],14) else if chkM (opM b) = 0 then (opM b,msg0,0) else (msg0,noteM 2 (subO (opM b)) [],chkM (opM b))
theorem capsOf_ok {r:List Int} (hr:isB r) {size:Int} (hs:0 ≤ size ∧ size ≤ 255) (h:(capsOf r size).2 = true) :
   (∀ c ∈ (capsOf r size).1,okCap c) ∧ (capsOf r size).1.length ≤ 255 ∧ (capsB (capsOf r size).1).length ≤ 253 ∧
   r = (if (capsB (capsOf r size).1).length = 0 then [] else [2,((capsB (capsOf r size).1).length:Int)] ++ capsB (capsOf r size).1) ∧ size = if (capsB (capsOf r size).1).length = 0 then 0 else ((capsB (capsOf r size).1).length:Int) + 2:=by
 unfold capsOf at h ⊢
 by_cases g1:(r.length:Int) ≠ size
 · rw [if_pos g1] at h; cases h
 rw [if_neg g1] at h ⊢
 have e1:(r.length:Int) = size:=by omega
 by_cases g2:size ≤ 0
 · rw [if_pos g2]
   have:r = []:=List.eq_nil_of_length_eq_zero (by omega)
   subst this
   refine ⟨by simp,by simp,by simp [capsB],by simp [capsB],?_⟩
   simp only [capsB,List.map_nil,List.flatten_nil,List.length_nil,if_true]; omega
 rw [if_neg g2] at h ⊢
 by_cases g3:r.length < 2
 · rw [if_pos g3] at h; cases h
 rw [if_neg g3] at h ⊢
 by_cases g4:r.getD 0 0 ≠ 2
 · rw [if_pos g4] at h; cases h
 rw [if_neg g4] at h ⊢
 by_cases g5:r.getD 1 0 ≠ size - 2
 · rw [if_pos g5] at h; cases h
 rw [if_neg g5] at h ⊢
 simp only at h ⊢
 obtain ⟨q1,q2,q3,q4⟩:=rdCaps_ok (r.drop 2).length (r.drop 2) [] (Nat.le_refl _) (isB_drop hr 2) (by simp) h
 simp only [capsB,List.map_nil,List.flatten_nil,List.nil_append,List.length_nil] at q1 q3
 have hl:(r.drop 2).length = r.length - 2:=by simp
 have hB:capsB (rdCaps (r.drop 2) []).2.1 = r.drop 2:=q1
 rw [hB,hl]
 have hne:r.length - 2 ≠ 0:=by
   intro e0
   have:r.drop 2 = []:=List.eq_nil_of_length_eq_zero (by omega)
   rw [this,rdCaps,if_pos (show ([]:List Int).length = 0 from rfl)] at q4
   exact q4 rfl
 refine ⟨q2,by rw [hl] at q3; omega,by omega,?_,?_⟩
 · rw [if_neg hne]
   have:=two_bytes (b:=r) (by omega)
   have g4':r.getD 0 0 = 2:=Classical.byContradiction g4
   have g5':r.getD 1 0 = size - 2:=Classical.byContradiction g5
   rw [g4',g5'] at this
   rw [show ((r.length - 2:Nat):Int) = size - 2 by omega]
   exact this
 · rw [if_neg hne]; omega
theorem asOf_in {two:Int} (ht:0 ≤ two ∧ two < 65536):∀ {l:List Cap},(∀ c ∈ l,okCap c) → in32 (asOf two l)
 | [],_=>by unfold in32; simp only [asOf]; omega
 | c :: l,h=>by
   simp only [asOf]
   split
   · exact numAt_in (h c (by simp)).2.1 0 4
   · exact asOf_in ht (fun d hd=>h d (by simp [hd]))
theorem opM_okC (b:List Int) (hb:isB b) (h:(capsOf (b.drop 10) (b.getD 9 0)).2 = true):okC (opM b):=by
 obtain ⟨q1,q2,q3,q4,q5⟩:=capsOf_ok (isB_drop hb 10) (getD_in hb 9) h
 refine ⟨⟨by simp only [opM,openMsg]; omega,fun c hc=>⟨(q1 c hc).2.1,(q1 c hc).2.2⟩,by simp [opM,openMsg,msg0],by simp [opM,openMsg,msg0],szAt_0,by simp [opM,openMsg,msg0,isB]⟩,?_,.inr rfl⟩
 rfl
theorem cut5 {b:List Int} (hb:isB b) (h:10 ≤ b.length):b = [b.getD 0 0] ++ numB 2 (numAt b 1 2) ++ numB 2 (numAt b 3 2) ++ numB 4 (numAt b 5 4) ++ [b.getD 9 0] ++ b.drop 10:=by
 have e9:[b.getD 9 0] = numB 1 (numAt b 9 1):=by rw [numAt_1]; exact (one_byte (by have:=getD_in hb 9; omega)).symm
 have e0:[b.getD 0 0] = numB 1 (numAt b 0 1):=by rw [numAt_1]; exact (one_byte (by have:=getD_in hb 0; omega)).symm
 rw [e0,e9,numB_numAt hb 0 1 (by omega),numB_numAt hb 1 2 (by omega),numB_numAt hb 3 2 (by omega),numB_numAt hb 5 4 (by omega),numB_numAt hb 9 1 (by omega)]
 have step:∀ i j,b.drop i = (b.drop i).take j ++ b.drop (i + j):=fun i j=>by rw [← List.drop_drop,List.take_append_drop]
 have s0:=step 0 1
 rw [List.drop_zero,step 1 2,step 3 2,step 5 4,step 9 1] at s0
 rw [List.drop_zero]
 simpa using s0
theorem decOpen_ok {b:List Int} (hb:isB b) (hl:10 ≤ b.length) (h:(decOpen b).2.2 = 0):decOpen b = (opM b,msg0,0) ∧ chkM (opM b) = 0 ∧ (capsOf (b.drop 10) (b.getD 9 0)).2 = true ∧ openB (opM b) = b:=by
 unfold decOpen at h ⊢
 by_cases g1:b.getD 0 0 ≠ 4
 · rw [if_pos g1] at h; simp at h
 rw [if_neg g1] at h ⊢
 by_cases g2:(capsOf (b.drop 10) (b.getD 9 0)).2 = false
 · rw [if_pos g2] at h; simp at h
 rw [if_neg g2] at h ⊢
 by_cases g3:numAt b 1 2 ≠ shortI (opM b).AS
 · rw [if_pos g3] at h; simp at h
 rw [if_neg g3] at h ⊢
 by_cases g4:chkM (opM b) = 0
 case neg=>rw [if_neg g4] at h; exact (g4 h).elim
 rw [if_pos g4]
 have g2':(capsOf (b.drop 10) (b.getD 9 0)).2 = true:=by simpa using g2
 refine ⟨rfl,g4,g2',?_⟩
 obtain ⟨_,_,_,q4,q5⟩:=capsOf_ok (isB_drop hb 10) (getD_in hb 9) g2'
 have g3':numAt b 1 2 = shortI (opM b).AS:=Classical.byContradiction g3
 unfold openB
 rw [← g3']
 have c:=cut5 hb hl
 simp only [opM,openMsg]
 obtain ⟨caps,hcaps⟩:∃ c,(capsOf (b.drop 10) (b.getD 9 0)).1 = c:=⟨_,rfl⟩
 simp only [hcaps] at q4 q5 ⊢
 rw [q4,q5] at c
 by_cases h0:(capsB caps).length = 0
 · simp only [h0,if_true] at c ⊢
   rw [List.append_nil] at c
   exact c.symm
 · simp only [h0,if_false] at c ⊢
   simp only [List.append_assoc,List.cons_append,List.nil_append] at c ⊢
   exact c.symm
end Go.Proofs.YtapgoboiljjecaaGreatDoor

/- Open messages are decoded: the walk. -/
namespace Go.Proofs.YtapgoboiljjecaaGreatDoor
open Go Go.Am
set_option linter.unusedSimpArgs false
theorem num2 {Z0 Z1:List AVal} {Z:List (List AVal)} (b:List Int) (hb:isB b) (hl:b.length ≤ 65535) (n:Nat) (hn:n ≤ 4) (h:n ≤ b.length) :
   CFun Tryz.prog 84 [.ptr 2 0,.int .i64 n] (Z0 :: Z1 :: [encBs b] :: Z) (.int .i64 (numAt b 0 n)) (Z0 :: Z1 :: [encBs (b.drop n)] :: Z):=by
 have:=(t84 b hb (by omega) n hn h [] (by simp)).at (H:=Z0 :: Z1 :: [encBs b] :: Z) (id:=2) rfl rfl rfl rfl rfl
 simpa [ren,ren0] using this
theorem num4 {Z0 Z1 Z2 Z3:List AVal} {Z:List (List AVal)} (b:List Int) (hb:isB b) (hl:b.length ≤ 65535) (n:Nat) (hn:n ≤ 4) (h:n ≤ b.length) (l:List Cap) :
   CFun Tryz.prog 84 [.ptr 4 0,.int .i64 n] (Z0 :: Z1 :: Z2 :: Z3 :: [encBs b,.sl 2 (l.map encCap) .own] :: Z) (.int .i64 (numAt b 0 n)) (Z0 :: Z1 :: Z2 :: Z3 :: [encBs (b.drop n),.sl 2 (l.map encCap) .own] :: Z):=by
 have:=(t84 b hb (by omega) n hn h _ (caps_le l .own (.inl rfl))).at (H:=Z0 :: Z1 :: Z2 :: Z3 :: [encBs b,.sl 2 (l.map encCap) .own] :: Z) (id:=4) rfl rfl rfl rfl rfl
 simpa [ren,ren0] using this
theorem has4 {Z0 Z1 Z2 Z3:List AVal} {Z:List (List AVal)} (b:List Int) (n:Int) (l:List Cap) :
   CFun Tryz.prog 85 [.ptr 4 0,.int .i64 n] (Z0 :: Z1 :: Z2 :: Z3 :: [encBs b,.sl 2 (l.map encCap) .own] :: Z) (.bool (decide (n ≤ b.length))) (Z0 :: Z1 :: Z2 :: Z3 :: [encBs b,.sl 2 (l.map encCap) .own] :: Z):=by
 have:=(t85 b n _ (caps_le l .own (.inl rfl))).at (H:=Z0 :: Z1 :: Z2 :: Z3 :: [encBs b,.sl 2 (l.map encCap) .own] :: Z) (id:=4) rfl rfl rfl rfl rfl
 simpa [ren,ren0] using this
theorem all4 {Z0 Z1 Z2 Z3:List AVal} {Z:List (List AVal)} (b:List Int) (hb:isB b) (hl:b.length ≤ 65535) :
   CFun Tryz.prog 86 [.ptr 4 0] (Z0 :: Z1 :: Z2 :: Z3 :: [encBs b,.sl 2 (([]:List Cap).map encCap) .own] :: Z) (.bool (rdCaps b []).2.2) (Z0 :: Z1 :: Z2 :: Z3 :: [encBs (rdCaps b []).1,.sl 2 ((rdCaps b []).2.1.map encCap) .own] :: Z):=by
 have:=(t86 b hb [] (by simpa using hl)).at (H:=Z0 :: Z1 :: Z2 :: Z3 :: [encBs b,.sl 2 (([]:List Cap).map encCap) .own] :: Z) (id:=4) rfl rfl rfl rfl rfl
 simpa [ren,ren0] using this
@[simp] def slO (b:List Int) (v:Int):List (Nat × AVal):=[(2,.ptr 0 0),(3,.ptr 1 0),(5,.ptr 2 0),(6,.ptr 3 0)]
set_option maxHeartbeats 16000000 in
set_option maxRecDepth 20000 in
theorem t33 (b:List Int) (hb:isB b) (hlen:b.length ≤ 65535) (h10:10 ≤ b.length):CFun Tryz.prog 33 [encBs b] [] (.tup [encM (decOpen b).1,encM (decOpen b).2.1,.int .i64 (decOpen b).2.2]) []:=by
 refine CFun.introS (fz:=[]) (n:=153) (rs:=[.cell 2 55,.cell 3 55,.tmp 4]) Tryz.func33 rfl (by kernel_rfl) rfl rfl (by simp) (by simp) ?_
 have h30:=fun c s d H=>(t30 c s d).up' H rfl rfl
 have hR:decOpen b = decOpen b:=rfl
 obtain ⟨R,hx⟩:∃ R,decOpen b = R:=⟨_,rfl⟩
 rw [hx]
 unfold decOpen at hx
 have hok:=opM_okC b hb
 unfold opM at hx hok
 have hco:=capsOf_ok (isB_drop hb 10) (getD_in hb 9)
 obtain ⟨m,hm⟩:∃ m,b.length = m:=⟨_,rfl⟩
 have hd:=fun n (h:n ≤ m)=>isB_drop hb n
 have hdl:=fun n=>(List.length_drop (l:=b) (i:=n))
 have na:=fun k j (n:Nat) (hn:n ≤ 4) (h:k + n ≤ m)=>num2 (Z0:=cellsM msg0) (Z1:=cellsM msg0) (Z:=j) (b.drop k) (isB_drop hb k) (by simp; omega) n hn (by simp; omega)
 simp only [numAt_drop,Nat.add_zero,List.drop_drop] at na
 have i0:=getD_in hb 0
 have i9:=getD_in hb 9
 have i1:=numAt_in hb 1 2
 have i3:=numAt_in hb 3 2
 have i5:=numAt_in hb 5 4
 have n01:=na 0 [] 1 (by omega) (by omega)
 have n1:=fun j=>na 1 j 2 (by omega) (by omega)
 have n3:=fun j=>na 3 j 2 (by omega) (by omega)
 have n5:=fun j=>na 5 j 4 (by omega) (by omega)
 have n9:=fun j=>na 9 j 1 (by omega) (by omega)
 simp only [numAt_1,List.drop_zero,Nat.zero_add,Nat.reduceAdd] at n01 n1 n3 n5 n9
 have hr10:=isB_drop hb 10
 have hr10l:(b.drop 10).length = m - 10:=by simp [hm]
 generalize hrest:b.drop 10 = r at *
 generalize b.getD 0 0 = ver at *
 generalize b.getD 9 0 = size at *
 generalize numAt b 1 2 = two at *
 generalize numAt b 3 2 = hold at *
 generalize numAt b 5 4 = rtr at *
 refine SWp_cut (tr:=[]) mixed (by kernel_rfl) [(0,encBs b),(2,.ptr 0 0),(3,.ptr 1 0)] [cellsM msg0,cellsM msg0] ?_ ?_
 · simp [msg0,att0]
 refine SWp_cut (tr:=[]) mixed (by kernel_rfl) [(2,.ptr 0 0),(3,.ptr 1 0),(5,.ptr 2 0)] [cellsM msg0,cellsM msg0,[encBs b]] ?_ ?_
 · simp
 refine SWp_cut (tr:=[]) mixed (by kernel_rfl) [(2,.ptr 0 0),(3,.ptr 1 0),(5,.ptr 2 0),(6,.ptr 3 0)] [cellsM msg0,cellsM msg0,[encBs (b.drop 1)],cellsM (openMsg ver 0 0 0 [])] ?_ ?_
 · simp
   refine ⟨_,_,.inl (by simpa using n01),by simp,?_⟩
   simp [openMsg,msg0,att0]
 by_cases hv:ver = 4
 case neg =>
   rw [if_pos hv] at hx
   have h30':=fun H=>((t30 2 1 [0,4]).wk [.int .i64 2,.int .i64 1,.sl 1 ([0,4].map enc8) .full] (by simp) ⟨rfl,rfl,whole,trivial⟩).up' H rfl rfl
   refine SWp_of (tr:=[]) mixed (by kernel_rfl) ?_
   simp [openMsg,hv]
   refine ⟨_,_,.inl (by simpa using h30' _),by simp,?_⟩
   simp [← hx,noteM,msg0,att0]
 rw [if_neg (by simp [hv])] at hx
 refine SWp_cut (tr:=[]) mixed (by kernel_rfl) [(2,.ptr 0 0),(3,.ptr 1 0),(5,.ptr 2 0),(6,.ptr 3 0)] [cellsM msg0,cellsM msg0,[encBs (b.drop 1)],cellsM (openMsg ver 0 0 0 [])] ?_ ?_
 · simp [openMsg,hv]
 have w3:IntKind.u32.wrap rtr = rtr:=u32_in i5
 refine SWp_cut (tr:=[]) mixed (by kernel_rfl) [(2,.ptr 0 0),(3,.ptr 1 0),(5,.ptr 2 0),(6,.ptr 3 0),(7,.int .i64 two)] [cellsM msg0,cellsM msg0,[encBs (b.drop 3)],cellsM (openMsg ver 0 0 0 [])] ?_ ?_
 · simp [openMsg,msg0,att0]
   refine ⟨_,_,.inl (by simpa [openMsg,msg0,att0] using n1 _),by simp,?_⟩
   simp [openMsg,msg0,att0]
 refine SWp_cut (tr:=[]) mixed (by kernel_rfl) [(2,.ptr 0 0),(3,.ptr 1 0),(5,.ptr 2 0),(6,.ptr 3 0),(7,.int .i64 two)] [cellsM msg0,cellsM msg0,[encBs (b.drop 3)],cellsM (openMsg ver two 0 0 [])] ?_ ?_
 · simp [openMsg,msg0,att0]
 refine SWp_cut (tr:=[]) mixed (by kernel_rfl) [(2,.ptr 0 0),(3,.ptr 1 0),(5,.ptr 2 0),(6,.ptr 3 0),(7,.int .i64 two)] [cellsM msg0,cellsM msg0,[encBs (b.drop 5)],cellsM (openMsg ver two hold 0 [])] ?_ ?_
 · simp [openMsg,msg0,att0]
   refine ⟨_,_,.inl (by simpa [openMsg,msg0,att0] using n3 _),by simp,?_⟩
   simp [openMsg,msg0,att0]
 refine SWp_cut (tr:=[]) mixed (by kernel_rfl) [(2,.ptr 0 0),(3,.ptr 1 0),(5,.ptr 2 0),(6,.ptr 3 0),(7,.int .i64 two)] [cellsM msg0,cellsM msg0,[encBs (b.drop 9)],cellsM (openMsg ver two hold rtr [])] ?_ ?_
 · simp [openMsg,msg0,att0]
   refine ⟨_,_,.inl (by simpa [openMsg,msg0,att0] using n5 _),by simp,?_⟩
   simp [openMsg,msg0,att0,w3]
 refine SWp_cut (tr:=[]) mixed (by kernel_rfl) [(2,.ptr 0 0),(3,.ptr 1 0),(5,.ptr 2 0),(6,.ptr 3 0),(7,.int .i64 two),(8,.int .i64 size)] [cellsM msg0,cellsM msg0,[encBs r],cellsM (openMsg ver two hold rtr [])] ?_ ?_
 · simp [openMsg,msg0,att0]
   refine ⟨_,_,.inl (by simpa [openMsg,msg0,att0] using n9 _),by simp,?_⟩
   simp [openMsg,msg0,att0,hrest]
 obtain ⟨q,hq⟩:∃ q,m - 10 = q:=⟨_,rfl⟩
 rw [hq] at hr10l
 refine SWp_cut (tr:=[]) mixed (by kernel_rfl) [(2,.ptr 0 0),(3,.ptr 1 0),(5,.ptr 2 0),(6,.ptr 3 0),(7,.int .i64 two),(8,.int .i64 size),(9,.bool ((q:Int) == size))] [cellsM msg0,cellsM msg0,[encBs r],cellsM (openMsg ver two hold rtr [])] ?_ ?_
 · simp [openMsg,msg0,att0,hr10l]
 obtain ⟨CO,hCO⟩:∃ c,capsOf r size = c:=⟨_,rfl⟩
 rw [hCO] at hco hok hx
 refine SWp_cut (tr:=[]) mixed (by kernel_rfl) [(2,.ptr 0 0),(3,.ptr 1 0),(6,.ptr 3 0),(7,.int .i64 two),(9,.bool CO.2)] [cellsM msg0,cellsM msg0,[encBs r],cellsM (openMsg ver two hold rtr CO.1)] ?_ ?_
 · unfold capsOf at hCO
   rw [hr10l] at hCO
   clear n01 n1 n3 n5 n9 na hx hok hco hd hdl h30 i0 i1 i3 i5 hR
   by_cases c1:(q:Int) = size
   case neg =>
     rw [if_pos c1] at hCO
     simp [c1,← hCO]
   rw [if_neg (by simp [c1])] at hCO
   by_cases c2:size ≤ 0
   · have c2':¬ 0 < size:=by omega
     rw [if_pos c2] at hCO
     simp [c1,c2',← hCO]
   rw [if_neg c2] at hCO
   have c2':0 < size:=by omega
   have a1:=has4 (Z0:=cellsM msg0) (Z1:=cellsM msg0) (Z2:=[encBs r]) (Z3:=cellsM (openMsg ver two hold rtr [])) (Z:=[]) r 2 []
   rw [hr10l] at a1
   have a1':=less0 (H:=[cellsM msg0,cellsM msg0,[encBs r],cellsM (openMsg ver two hold rtr []),[encBs r,.sl 0 [] .full]]) a1 rfl (by simp [openMsg,msg0,att0])
   clear a1
   by_cases c3:q < 2
   · rw [if_pos c3] at hCO
     rw [decide_eq_false (by omega)] at a1'
     simp [c1,c2',openMsg,msg0,att0]
     refine ⟨_,_,.inl (by simpa [openMsg,msg0,att0] using a1'),by simp,?_⟩
     simp [← hCO]
   rw [if_neg c3] at hCO
   rw [decide_eq_true (by omega)] at a1'
   have a2:=num4 (Z0:=cellsM msg0) (Z1:=cellsM msg0) (Z2:=[encBs r]) (Z3:=cellsM (openMsg ver two hold rtr [])) (Z:=[]) r hr10 (by omega) 1 (by omega) (by omega) []
   have a3:=num4 (Z0:=cellsM msg0) (Z1:=cellsM msg0) (Z2:=[encBs r]) (Z3:=cellsM (openMsg ver two hold rtr [])) (Z:=[]) (r.drop 1) (isB_drop hr10 1) (by simp; omega) 1 (by omega) (by simp; omega) []
   have a4:=all4 (Z0:=cellsM msg0) (Z1:=cellsM msg0) (Z2:=[encBs r]) (Z3:=cellsM (openMsg ver two hold rtr [])) (Z:=[]) (r.drop 2) (isB_drop hr10 2) (by simp; omega)
   rw [numAt_1] at a2 a3
   rw [List.drop_drop,show (r.drop 1).getD 0 0 = r.getD 1 0 by simp [List.getD_eq_getElem?_getD]] at a3
   simp only [Nat.reduceAdd] at a3
   have hdm:(r.map enc8).drop 1 = (r.drop 1).map enc8:=by rw [List.map_drop]
   have hdm2:(r.map enc8).drop 2 = (r.drop 2).map enc8:=by rw [List.map_drop]
   generalize r.getD 0 0 = x0 at *
   generalize r.getD 1 0 = x1 at *
   generalize r.drop 1 = r1 at *
   generalize r.drop 2 = r2 at *
   have w2:IntKind.i64.wrap (size - 2) = size - 2:=wrap_in (by omega)
   simp [c1,c2',openMsg,msg0,att0]
   refine ⟨_,_,.inl (by simpa [openMsg,msg0,att0] using a1'),by simp,?_⟩
   simp
   refine ⟨_,_,.inl (by simpa [openMsg,msg0,att0] using a2),by simp,?_⟩
   by_cases c4:x0 = 2
   case neg =>
     rw [if_pos c4] at hCO
     simp [c4,← hCO]
   rw [if_neg (by simp [c4])] at hCO
   simp [c4]
   refine ⟨_,_,.inl (by simpa [openMsg,msg0,att0] using a3),by simp,?_⟩
   by_cases c5:x1 = size - 2
   case neg =>
     rw [if_pos c5] at hCO
     simp [c5,w2,← hCO]
   rw [if_neg (by simp [c5])] at hCO
   generalize rdCaps r2 [] = RC at *
   simp [c5,w2]
   refine ⟨_,_,.inl (by simpa [openMsg,msg0,att0] using a4),by simp,?_⟩
   simp [← hCO]
 have h30z:=fun c sb H=>((t30 c sb []).wk [.int .i64 c,.int .i64 sb,.sl 0 [] .full] (by simp) (by simp [All2,LeS])).up' H rfl rfl
 clear n01 n1 n3 n5 n9 na hd hdl h30 i0 hR
 obtain ⟨caps,okc⟩:=CO
 simp only at hx hok hco
 cases okc
 · rw [if_pos rfl] at hx
   refine SWp_of (tr:=[]) mixed (by kernel_rfl) ?_
   simp
   refine ⟨_,_,.inl (by simpa using h30z 2 4 _),by simp,?_⟩
   simp [← hx,noteM,openMsg,msg0,att0]
 rw [if_neg (by simp)] at hx
 have hok:=hok rfl
 obtain ⟨k1,k2,k3,-,-⟩:=hco rfl
 refine SWp_cut (tr:=[]) mixed (by kernel_rfl) [(2,.ptr 0 0),(3,.ptr 1 0),(6,.ptr 3 0),(7,.int .i64 two)] [cellsM msg0,cellsM msg0,[encBs r],cellsM (openMsg ver two hold rtr caps)] ?_ ?_
 · simp
 obtain ⟨a,ha⟩:∃ a,asOf two caps = a:=⟨_,rfl⟩
 rw [ha] at hx hok
 refine SWp_cut (tr:=[]) mixed (by kernel_rfl) [(2,.ptr 0 0),(3,.ptr 1 0),(6,.ptr 3 0),(7,.int .i64 two)] [cellsM msg0,cellsM msg0,[encBs r],cellsM (openMsg ver a hold rtr caps)] ?_ ?_
 · obtain ⟨n,hn⟩:∃ n,caps.length = n:=⟨_,rfl⟩
   clear hx hok hCO hv
   simp [openMsg,msg0,att0,hn]
   refine LoopK.intro (tr:=[]) mixed (by kernel_rfl) (fun i:Nat=>[(2,.ptr 0 0),(3,.ptr 1 0),(6,.ptr 3 0),(7,.int .i64 two),(95,.sl 2 (caps.map encCap) .sh),(96,.int .i64 n),(97,.int .i64 i)]) (fun _=>[cellsM msg0,cellsM msg0,[encBs r],cellsM (openMsg ver two hold rtr caps)]) (fun i=>i ≤ n ∧ asOf two (caps.drop i) = a) (fun i=>n - i) 0 ?_ ?_ ?_
   · simp [ha]
   · simp [openMsg,msg0,att0]
   · rintro i ⟨j1,j2⟩
     by_cases hi:i < n
     · obtain ⟨t,ht,hd⟩:=get_drop (l:=caps) (i:=i) (by omega)
       rw [hd,asOf] at j2
       have w1:IntKind.i64.wrap ((i:Int) + 1) = i + 1:=wrap_in (by omega)
       have hvt:=k1 t (List.mem_of_getElem? ht)
       obtain ⟨K,V⟩:=t
       obtain ⟨v1,v2,v4⟩:=hvt
       simp only at v1 v2 v4 j2
       by_cases e65:K = 65
       · by_cases e4:V.length = 4
         · rw [if_pos ⟨e65,e4⟩] at j2
           have e4':(V.length:Int) = 4:=by omega
           have h31:=fun H=>(c93 V v2 (by omega) 0 4 (by omega) (by omega)).up' H rfl rfl
           rw [if_pos (by omega)] at h31
           have w2:IntKind.i64.wrap (numAt V 0 4) = numAt V 0 4:=i64_in (numAt_in v2 0 4)
           generalize numAt V 0 4 = x at *
           simp [hi,ht,e65,e4,e4',openMsg,msg0,att0]
           refine ⟨_,_,.inl (by simpa [openMsg,msg0,att0,e65] using h31 _),by simp,?_⟩
           subst j2
           simp [w2]
         · rw [if_neg (by intro h; exact e4 h.2)] at j2
           have e4':¬ (V.length:Int) = 4:=by omega
           simp [hi,ht,e65,e4,e4',openMsg,msg0,att0,w1]
           exact ⟨i + 1,⟨by omega,j2⟩,by omega,by simp⟩
       · rw [if_neg (by intro h; exact e65 h.1)] at j2
         simp [hi,ht,e65,openMsg,msg0,att0,w1]
         exact ⟨i + 1,⟨by omega,j2⟩,by omega,by simp⟩
     · have e:caps.drop i = []:=List.drop_of_length_le (by omega)
       rw [e,asOf] at j2
       simp [hi,openMsg,msg0,att0,j2]
 have h87:=fun H=>(t87 a).up' H rfl rfl
 have h35:=fun H=>(t35 (openMsg ver a hold rtr caps) hok).up' H rfl rfl
 refine SWp_of (tr:=[]) mixed (by kernel_rfl) ?_
 have hAS:(openMsg ver a hold rtr caps).AS = a:=rfl
 rw [hAS] at hx
 unfold subO at hx
 rw [hAS] at hx
 have hRt:(openMsg ver a hold rtr caps).Rtr = rtr:=rfl
 rw [hRt] at hx
 have hME:encM (openMsg ver a hold rtr caps) = encM (openMsg ver a hold rtr caps):=rfl
 generalize chkM (openMsg ver a hold rtr caps) = e at *
 clear ha k1 k2 k3 hok hCO
 simp [openMsg,msg0,att0]
 refine ⟨_,_,.inl (by simpa [openMsg,msg0,att0] using h87 _),by simp,?_⟩
 by_cases h2:two = shortI a
 case neg =>
   rw [if_pos h2] at hx
   simp [h2]
   refine ⟨_,_,.inl (by simpa using h30z 2 2 _),by simp,?_⟩
   simp [← hx,noteM,msg0,att0]
 rw [if_neg (by simp [h2])] at hx
 simp [h2]
 refine ⟨_,_,.inl (by simpa [openMsg,msg0,att0] using h35 _),by simp,?_⟩
 by_cases he:e = 0
 · rw [if_pos he] at hx
   simp [he,← hx,openMsg,msg0,att0]
 rw [if_neg he] at hx
 by_cases c1:a < 1
 · rw [if_pos (.inl c1)] at hx
   simp [he,c1]
   refine ⟨_,_,.inl (by simpa using h30z 2 2 _),by simp,?_⟩
   simp [← hx,noteM,msg0,att0]
 by_cases c2:4294967295 < a
 · rw [if_pos (.inr c2)] at hx
   simp [he,c1,c2]
   refine ⟨_,_,.inl (by simpa using h30z 2 2 _),by simp,?_⟩
   simp [← hx,noteM,msg0,att0]
 rw [if_neg (by omega)] at hx
 by_cases c3:e = 21
 · rw [if_pos c3] at hx
   simp [he,c1,c2,c3]
   refine ⟨_,_,.inl (by simpa using h30z 2 6 _),by simp,?_⟩
   simp [← hx,noteM,msg0,att0,c3]
 rw [if_neg c3] at hx
 by_cases c4:rtr = 0
 · rw [if_pos c4] at hx
   simp [he,c1,c2,c3,c4]
   refine ⟨_,_,.inl (by simpa using h30z 2 3 _),by simp,?_⟩
   simp [← hx,noteM,msg0,att0]
 · rw [if_neg c4] at hx
   simp [he,c1,c2,c3,c4]
   refine ⟨_,_,.inl (by simpa using h30z 2 4 _),by simp,?_⟩
   simp [← hx,noteM,msg0,att0]
end Go.Proofs.YtapgoboiljjecaaGreatDoor

/- Updates are decoded (no program). -/
namespace Go.Proofs.YtapgoboiljjecaaGreatDoor
open Go Go.Am
set_option linter.unusedSimpArgs false
theorem decAt_ok {b:List Int} (hb:isB b) (h:(decAt b).2 = 0):okAtt (decAt b).1 ∧ chkAt (decAt b).1 = 0 ∧ attsB (decAt b).1 = b ∧ (decAt b).1.Unk.length ≤ b.length:=by
 unfold decAt at h ⊢
 by_cases g1:(decA b att0 (-1) 0).2 = 0
 case neg=>rw [if_pos g1] at h; exact (g1 h).elim
 rw [if_neg (by simp [g1])] at h ⊢
 by_cases g2:chkAt (decA b att0 (-1) 0).1 = 0
 case neg=>rw [if_pos g2] at h; exact (g2 h).elim
 rw [if_neg (by simp [g2])]
 obtain ⟨q1,q2,q3⟩:=decA_ok b.length b att0 (-1) 0 false false false (Nat.le_refl _) hb okAtt_0 (by omega) (.inr ⟨by constructor <;> intro _ <;> simp [att0],by simp [cnt3]⟩) g1
 refine ⟨q1,g2,?_,by simpa [att0] using q2⟩
 rcases q3 with q3 | q3
 · exact (chkAt_unk g2 q3).elim
 · rw [q3]; simp [tlvsA,att0]
theorem okAtt.sz {a:Att} (h:okAtt a) (hu:a.Unk.length ≤ 1000000):szAt a :=
 ⟨h.plen,fun s hs=>by have:=(h.path s hs).2.1; omega,h.clen,h.llen,hu,fun t ht=>(h.unk t ht).2⟩
def updS1 (b:List Int):Nat:=(numAt b 0 2).toNat
def updS2 (b:List Int):Nat:=(numAt b (2 + updS1 b) 2).toNat
def updG (b:List Int):List Int:=(b.drop 2).take (updS1 b)
def updA (b:List Int):List Int:=(b.drop (2 + updS1 b + 2)).take (updS2 b)
def updR (b:List Int):List Int:=b.drop (2 + updS1 b + 2 + updS2 b)
def updMsg (wd:List Pre) (a:Att) (rc:List Pre):Msg:={ msg0 with Kind:=2,Wd:=wd,At:=a,Rc:=rc }
def finU (m:Msg):Msg × Msg × Int:=if chkM m ≠ 0 then (msg0,noteM 3 10 [],chkM m) else (m,msg0,0)
def decUpd (b:List Int):Msg × Msg × Int :=
 if b.length < 2 + (updS1 b + 2) then (msg0,noteM 3 1 [],2)
 else if b.length < 2 + updS1 b + 2 + updS2 b then (msg0,noteM 3 1 [],2)
 else if (rdPres (updG b) []).2.2 = false then (msg0,noteM 3 10 [],2)
 else if (rdPres (updR b) []).2.2 = false then (msg0,noteM 3 10 [],2)
 else if (updA b).length = 0 ∧ (rdPres (updR b) []).2.1.length = 0 then finU (updMsg (rdPres (updG b) []).2.1 att0 (rdPres (updR b) []).2.1)
 else if (decAt (updA b)).2 ≠ 0 then (msg0,noteM 3 (if (decAt (updA b)).2 = 6 then 3 else 1) [],(decAt (updA b)).2)
 else if (rdPres (updR b) []).2.1.length = 0 then (msg0,noteM 3 1 [],2)
 else finU (updMsg (rdPres (updG b) []).2.1 (decAt (updA b)).1 (rdPres (updR b) []).2.1)
theorem updMsg_okC {wd rc:List Pre} {a:Att} (h1:wd.length ≤ 65535) (h2:rc.length ≤ 65535) (h3:szAt a) (h4:rc ≠ [] ∨ a = att0):okC (updMsg wd a rc) :=
 ⟨⟨by simp [updMsg,msg0],by simp [updMsg,msg0],h1,h2,h3,by simp [updMsg,msg0,isB]⟩,rfl,h4⟩
theorem upd_split {b:List Int} (hb:isB b) (h1:2 + updS1 b + 2 + updS2 b ≤ b.length):b = numB 2 (updG b).length ++ updG b ++ numB 2 (updA b).length ++ updA b ++ updR b:=by
 have i1:=numAt_in hb 0 2
 have i2:=numAt_in hb (2 + updS1 b) 2
 have e1:((updG b).length:Int) = numAt b 0 2:=by
   have:(updG b).length = updS1 b:=by simp only [updG,List.length_take,List.length_drop]; omega
   rw [this]; unfold updS1; omega
 have e2:((updA b).length:Int) = numAt b (2 + updS1 b) 2:=by
   have:(updA b).length = updS2 b:=by simp only [updA,List.length_take,List.length_drop]; omega
   rw [this]; unfold updS2; omega
 rw [e1,e2,numB_numAt hb 0 2 (by omega),numB_numAt hb (2 + updS1 b) 2 (by omega)]
 have step:∀ i j,b.drop i = (b.drop i).take j ++ b.drop (i + j):=fun i j=>by rw [← List.drop_drop,List.take_append_drop]
 unfold updG updA updR
 have s0:=step 0 2
 rw [List.drop_zero,Nat.zero_add,step 2 (updS1 b),step (2 + updS1 b) 2,step (2 + updS1 b + 2) (updS2 b)] at s0
 rw [List.drop_zero]
 simpa using s0
theorem decUpd_ok {b:List Int} (hb:isB b) (hl:b.length ≤ 65535) (h:(decUpd b).2.2 = 0) :
   ∃ wd a rc,decUpd b = (updMsg wd a rc,msg0,0) ∧ chkM (updMsg wd a rc) = 0 ∧ okC (updMsg wd a rc) ∧ updB (updMsg wd a rc) = b ∧ (∀ p ∈ wd,okPre p) ∧ (∀ p ∈ rc,okPre p) ∧ (presB wd).length ≤ 65535 ∧ (rc ≠ [] → okAtt a ∧ chkAt a = 0 ∧ (attsB a).length ≤ 65535):=by
 unfold decUpd at h ⊢
 by_cases g1:b.length < 2 + (updS1 b + 2)
 · rw [if_pos g1] at h; simp at h
 rw [if_neg g1] at h ⊢
 by_cases g2:b.length < 2 + updS1 b + 2 + updS2 b
 · rw [if_pos g2] at h; simp at h
 rw [if_neg g2] at h ⊢
 by_cases g3:(rdPres (updG b) []).2.2 = false
 · rw [if_pos g3] at h; simp at h
 rw [if_neg g3] at h ⊢
 by_cases g4:(rdPres (updR b) []).2.2 = false
 · rw [if_pos g4] at h; simp at h
 rw [if_neg g4] at h ⊢
 have hsp:=upd_split hb (by omega)
 have hG:isB (updG b):=isB_take (isB_drop hb 2) _
 have hA:isB (updA b):=isB_take (isB_drop hb _) _
 have hR:isB (updR b):=isB_drop hb _
 have hGl:(updG b).length ≤ b.length:=by simp only [updG,List.length_take,List.length_drop]; omega
 have hAl:(updA b).length ≤ b.length:=by simp only [updA,List.length_take,List.length_drop]; omega
 have hRl:(updR b).length ≤ b.length:=by simp only [updR,List.length_drop]; omega
 obtain ⟨p1,p2,p3,-⟩:=rdPres_ok (updG b).length (updG b) [] (Nat.le_refl _) hG (by simp) (by simpa using g3)
 obtain ⟨r1,r2,r3,r4⟩:=rdPres_ok (updR b).length (updR b) [] (Nat.le_refl _) hR (by simp) (by simpa using g4)
 simp only [presB,List.map_nil,List.flatten_nil,List.nil_append,List.length_nil,Nat.zero_add] at p1 p3 r1 r3
 generalize (rdPres (updG b) []).2.1 = wd at *
 generalize (rdPres (updR b) []).2.1 = rc at *
 have p1':presB wd = updG b:=p1
 have r1':presB rc = updR b:=r1
 have hfin:∀ a,(finU (updMsg wd a rc)).2.2 = 0 → finU (updMsg wd a rc) = (updMsg wd a rc,msg0,0) ∧ chkM (updMsg wd a rc) = 0:=by
   intro a e
   unfold finU at e ⊢
   by_cases g:chkM (updMsg wd a rc) = 0
   · rw [if_neg (by simp [g])]; exact ⟨rfl,g⟩
   · rw [if_pos g] at e; exact (g e).elim
 by_cases g5:(updA b).length = 0 ∧ rc.length = 0
 · rw [if_pos g5] at h ⊢
   obtain ⟨f1,f2⟩:=hfin _ h
   have erc:rc = []:=List.eq_nil_of_length_eq_zero g5.2
   have eA:updA b = []:=List.eq_nil_of_length_eq_zero g5.1
   refine ⟨wd,att0,rc,f1,f2,updMsg_okC (by omega) (by omega) szAt_0 (.inr rfl),?_,p2,r2,by rw [p1']; omega,fun e=>(e erc).elim⟩
   unfold updB
   show numB 2 (presB wd).length ++ presB wd ++ numB 2 (if 0 < rc.length then attsB att0 else []).length ++ (if 0 < rc.length then attsB att0 else []) ++ presB rc = b
   rw [if_neg (by omega),p1',r1']
   rw [eA] at hsp
   exact hsp.symm
 rw [if_neg g5] at h ⊢
 by_cases g6:(decAt (updA b)).2 = 0
 case neg=>rw [if_pos g6] at h; exact (g6 h).elim
 rw [if_neg (by simp [g6])] at h ⊢
 by_cases g7:rc.length = 0
 · rw [if_pos g7] at h; simp at h
 rw [if_neg g7] at h ⊢
 obtain ⟨a1,a2,a3,a4⟩:=decAt_ok hA g6
 obtain ⟨f1,f2⟩:=hfin _ h
 have hne:rc ≠ []:=by intro e; rw [e] at g7; exact g7 rfl
 refine ⟨wd,(decAt (updA b)).1,rc,f1,f2,updMsg_okC (by omega) (by omega) (a1.sz (by omega)) (.inl hne),?_,p2,r2,by rw [p1']; omega,fun _=>⟨a1,a2,by rw [a3]; omega⟩⟩
 unfold updB
 show numB 2 (presB wd).length ++ presB wd ++ numB 2 (if 0 < rc.length then attsB (decAt (updA b)).1 else []).length ++ (if 0 < rc.length then attsB (decAt (updA b)).1 else []) ++ presB rc = b
 rw [if_pos (by omega),p1',r1',a3]
 exact hsp.symm
end Go.Proofs.YtapgoboiljjecaaGreatDoor

/- Updates are decoded: the walk. -/
namespace Go.Proofs.YtapgoboiljjecaaGreatDoor
open Go Go.Am
set_option linter.unusedSimpArgs false
theorem has2 {Z0 Z1:List AVal} {Z:List (List AVal)} (b:List Int) (n:Int) :
   CFun Tryz.prog 85 [.ptr 2 0,.int .i64 n] (Z0 :: Z1 :: [encBs b] :: Z) (.bool (decide (n ≤ b.length))) (Z0 :: Z1 :: [encBs b] :: Z):=by
 have:=(t85 b n [] (by simp)).at (H:=Z0 :: Z1 :: [encBs b] :: Z) (id:=2) rfl rfl rfl rfl rfl
 simpa [ren,ren0] using this
theorem take2 {Z0 Z1:List AVal} {Z:List (List AVal)} (b:List Int) (hl:b.length ≤ 65535) (n:Nat) (h:n ≤ b.length) :
   CFun Tryz.prog 88 [.ptr 2 0,.int .i64 n] (Z0 :: Z1 :: [encBs b] :: Z) (.sl 1 ((b.take n).map enc8) .sh) (Z0 :: Z1 :: [encBs (b.drop n)] :: Z):=by
 have:=(t88 b (by omega) n h [] (by simp)).at (H:=Z0 :: Z1 :: [encBs b] :: Z) (id:=2) rfl rfl rfl rfl rfl
 simpa [ren,ren0] using this
theorem pres3 {Z0 Z1 Z2:List AVal} {Z:List (List AVal)} (b:List Int) (hb:isB b) (hl:b.length ≤ 65535) :
   CFun Tryz.prog 89 [.ptr 3 0] (Z0 :: Z1 :: Z2 :: [encBs b,.sl 2 (([]:List Pre).map encPre) .own] :: Z) (.bool (rdPres b []).2.2) (Z0 :: Z1 :: Z2 :: [encBs (rdPres b []).1,.sl 2 ((rdPres b []).2.1.map encPre) .own] :: Z):=by
 have:=(t89 b hb [] (by simpa using hl)).at (H:=Z0 :: Z1 :: Z2 :: [encBs b,.sl 2 (([]:List Pre).map encPre) .own] :: Z) (id:=3) rfl rfl rfl rfl rfl
 simpa [ren,ren0] using this
theorem pres4 {Z0 Z1 Z2 Z3:List AVal} {Z:List (List AVal)} (b:List Int) (hb:isB b) (hl:b.length ≤ 65535) :
   CFun Tryz.prog 89 [.ptr 4 0] (Z0 :: Z1 :: Z2 :: Z3 :: [encBs b,.sl 2 (([]:List Pre).map encPre) .own] :: Z) (.bool (rdPres b []).2.2) (Z0 :: Z1 :: Z2 :: Z3 :: [encBs (rdPres b []).1,.sl 2 ((rdPres b []).2.1.map encPre) .own] :: Z):=by
 have:=(t89 b hb [] (by simpa using hl)).at (H:=Z0 :: Z1 :: Z2 :: Z3 :: [encBs b,.sl 2 (([]:List Pre).map encPre) .own] :: Z) (id:=4) rfl rfl rfl rfl rfl
 simpa [ren,ren0] using this
set_option maxHeartbeats 16000000 in
set_option maxRecDepth 20000 in
theorem t34 (b:List Int) (hb:isB b) (hlen:b.length ≤ 65535) (h4:4 ≤ b.length):CFun Tryz.prog 34 [encBs b,.bool true] [] (.tup [encM (decUpd b).1,encM (decUpd b).2.1,.int .i64 (decUpd b).2.2]) []:=by
 refine CFun.introS (fz:=[]) (n:=116) (rs:=[.cell 4 55,.cell 5 55,.tmp 6]) Tryz.func34 rfl (by kernel_rfl) rfl rfl (by simp) (by simp) ?_
 have h30z:=fun c sb H=>((t30 c sb []).wk [.int .i64 c,.int .i64 sb,.sl 0 [] .full] (by simp) (by simp [All2,LeS])).up' H rfl rfl
 obtain ⟨R,hx⟩:∃ R,decUpd b = R:=⟨_,rfl⟩
 rw [hx]
 unfold decUpd at hx
 obtain ⟨m,hm⟩:∃ m,b.length = m:=⟨_,rfl⟩
 rw [hm] at hx hlen h4
 have q1:=numAt_in hb 0 2
 have q2:=numAt_in hb (2 + updS1 b) 2
 have e1:numAt b 0 2 = updS1 b:=by unfold updS1; omega
 have e2:numAt b (2 + updS1 b) 2 = updS2 b:=by unfold updS2; omega
 have hGb:updG b = (b.drop 2).take (updS1 b):=rfl
 have hAb:updA b = (b.drop (2 + updS1 b + 2)).take (updS2 b):=rfl
 have hRb:updR b = b.drop (2 + updS1 b + 2 + updS2 b):=rfl
 generalize updS1 b = s1 at *
 generalize updS2 b = s2 at *
 have hlk:∀ k,(b.drop k).length = m - k:=fun k=>by simp only [List.length_drop,hm]
 have a1:=num2 (Z0:=cellsM msg0) (Z1:=cellsM msg0) (Z:=[]) b hb (by omega) 2 (by omega) (by omega)
 rw [e1] at a1
 have a2:=has2 (Z0:=cellsM msg0) (Z1:=cellsM msg0) (Z:=[]) (b.drop 2) ((s1:Int) + 2)
 rw [hlk] at a2
 have a3:=fun (h:s1 ≤ m - 2)=>take2 (Z0:=cellsM msg0) (Z1:=cellsM msg0) (Z:=[]) (b.drop 2) (by rw [hlk]; omega) s1 (by rw [hlk]; exact h)
 rw [← hGb,List.drop_drop] at a3
 have a4:=fun (h:2 ≤ m - (2 + s1)) Z=>num2 (Z0:=cellsM msg0) (Z1:=cellsM msg0) (Z:=Z) (b.drop (2 + s1)) (isB_drop hb _) (by rw [hlk]; omega) 2 (by omega) (by rw [hlk]; exact h)
 rw [numAt_drop,Nat.add_zero,e2,List.drop_drop] at a4
 have a5:=fun Z=>has2 (Z0:=cellsM msg0) (Z1:=cellsM msg0) (Z:=Z) (b.drop (2 + s1 + 2)) (s2:Int)
 rw [hlk] at a5
 have a6:=fun (h:s2 ≤ m - (2 + s1 + 2)) Z=>take2 (Z0:=cellsM msg0) (Z1:=cellsM msg0) (Z:=Z) (b.drop (2 + s1 + 2)) (by rw [hlk]; omega) s2 (by rw [hlk]; exact h)
 rw [← hAb,List.drop_drop,← hRb] at a6
 have hG:isB (updG b):=by rw [hGb]; exact isB_take (isB_drop hb 2) _
 have hA:isB (updA b):=by rw [hAb]; exact isB_take (isB_drop hb _) _
 have hR:isB (updR b):=by rw [hRb]; exact isB_drop hb _
 have hGl:(updG b).length ≤ 65535:=by rw [hGb]; simp only [List.length_take,hlk]; omega
 have hAl:(updA b).length ≤ 65535:=by rw [hAb]; simp only [List.length_take,hlk]; omega
 have hRl:(updR b).length ≤ 65535:=by rw [hRb,hlk]; omega
 generalize updG b = G at *
 generalize updA b = A at *
 generalize updR b = Rr at *
 generalize hb2:b.drop 2 = b2 at *
 generalize hb3:b.drop (2 + s1) = b3 at *
 generalize hb4:b.drop (2 + s1 + 2) = b4 at *
 have w1:IntKind.i64.wrap ((s1:Int) + 2) = s1 + 2:=wrap_in (by omega)
 refine SWp_cut (tr:=[]) mixed (by kernel_rfl) [(0,encBs b),(1,.bool true),(4,.ptr 0 0),(5,.ptr 1 0)] [cellsM msg0,cellsM msg0] ?_ ?_
 · simp [msg0,att0]
 refine SWp_cut (tr:=[]) mixed (by kernel_rfl) [(1,.bool true),(4,.ptr 0 0),(5,.ptr 1 0),(7,.ptr 2 0)] [cellsM msg0,cellsM msg0,[encBs b]] ?_ ?_
 · simp
 refine SWp_cut (tr:=[]) mixed (by kernel_rfl) [(1,.bool true),(4,.ptr 0 0),(5,.ptr 1 0),(7,.ptr 2 0),(8,.int .i64 s1)] [cellsM msg0,cellsM msg0,[encBs b2]] ?_ ?_
 · simp
   refine ⟨_,_,.inl (by simpa using a1),by simp,?_⟩
   simp
 by_cases g1:m < 2 + (s1 + 2)
 · rw [if_pos g1] at hx
   rw [decide_eq_false (by omega)] at a2
   refine SWp_of (tr:=[]) mixed (by kernel_rfl) ?_
   simp [w1]
   refine ⟨_,_,.inl (by simpa using a2),by simp,?_⟩
   simp
   refine ⟨_,_,.inl (by simpa using h30z 3 1 _),by simp,?_⟩
   simp [← hx,noteM,msg0,att0]
 rw [if_neg g1] at hx
 rw [decide_eq_true (by omega)] at a2
 refine SWp_cut (tr:=[]) mixed (by kernel_rfl) [(1,.bool true),(4,.ptr 0 0),(5,.ptr 1 0),(7,.ptr 2 0),(8,.int .i64 s1)] [cellsM msg0,cellsM msg0,[encBs b2]] ?_ ?_
 · simp [w1]
   refine ⟨_,_,.inl (by simpa using a2),by simp,?_⟩
   simp
 refine SWp_cut (tr:=[]) mixed (by kernel_rfl) [(1,.bool true),(4,.ptr 0 0),(5,.ptr 1 0),(7,.ptr 2 0),(9,.ptr 3 0)] [cellsM msg0,cellsM msg0,[encBs b3],[encBs G,.sl 2 (([]:List Pre).map encPre) .own]] ?_ ?_
 · simp
   refine ⟨_,_,.inl (by simpa using a3 (by omega)),by simp,?_⟩
   simp
 refine SWp_cut (tr:=[]) mixed (by kernel_rfl) [(1,.bool true),(4,.ptr 0 0),(5,.ptr 1 0),(7,.ptr 2 0),(8,.int .i64 s2),(9,.ptr 3 0)] [cellsM msg0,cellsM msg0,[encBs b4],[encBs G,.sl 2 (([]:List Pre).map encPre) .own]] ?_ ?_
 · simp
   refine ⟨_,_,.inl (by simpa using a4 (by omega) _),by simp,?_⟩
   simp
 by_cases g2:m < 2 + s1 + 2 + s2
 · rw [if_pos g2] at hx
   have a5':=fun Z=>a5 Z
   simp only [decide_eq_false (show ¬ ((s2:Int) ≤ ((m - (2 + s1 + 2):Nat):Int)) by omega)] at a5'
   refine SWp_of (tr:=[]) mixed (by kernel_rfl) ?_
   simp
   refine ⟨_,_,.inl (by simpa using a5' _),by simp,?_⟩
   simp
   refine ⟨_,_,.inl (by simpa using h30z 3 1 _),by simp,?_⟩
   simp [← hx,noteM,msg0,att0]
 rw [if_neg g2] at hx
 simp only [decide_eq_true (show (s2:Int) ≤ ((m - (2 + s1 + 2):Nat):Int) by omega)] at a5
 refine SWp_cut (tr:=[]) mixed (by kernel_rfl) [(1,.bool true),(4,.ptr 0 0),(5,.ptr 1 0),(7,.ptr 2 0),(8,.int .i64 s2),(9,.ptr 3 0)] [cellsM msg0,cellsM msg0,[encBs b4],[encBs G,.sl 2 (([]:List Pre).map encPre) .own]] ?_ ?_
 · simp
   refine ⟨_,_,.inl (by simpa using a5 _),by simp,?_⟩
   simp
 refine SWp_cut (tr:=[]) mixed (by kernel_rfl) [(1,.bool true),(4,.ptr 0 0),(5,.ptr 1 0),(7,.ptr 2 0),(9,.ptr 3 0),(10,encBs A)] [cellsM msg0,cellsM msg0,[encBs Rr],[encBs G,.sl 2 (([]:List Pre).map encPre) .own]] ?_ ?_
 · simp
   refine ⟨_,_,.inl (by simpa using a6 (by omega) _),by simp,?_⟩
   simp
 refine SWp_cut (tr:=[]) mixed (by kernel_rfl) [(1,.bool true),(4,.ptr 0 0),(5,.ptr 1 0),(9,.ptr 3 0),(10,encBs A),(11,.ptr 4 0)] [cellsM msg0,cellsM msg0,[],[encBs G,.sl 2 (([]:List Pre).map encPre) .own],[encBs Rr,.sl 2 (([]:List Pre).map encPre) .own]] ?_ ?_
 · simp
 have p1:=pres3 (Z0:=cellsM msg0) (Z1:=cellsM msg0) (Z2:=[]) (Z:=[[encBs Rr,.sl 2 (([]:List Pre).map encPre) .own]]) G hG hGl
 have p2:=pres4 (Z0:=cellsM msg0) (Z1:=cellsM msg0) (Z2:=[]) (Z3:=[encBs (rdPres G []).1,.sl 2 ((rdPres G []).2.1.map encPre) .own]) (Z:=[]) Rr hR hRl
 have hwd:=fun h=>(rdPres_ok G.length G [] (Nat.le_refl _) hG (by simp) h).2.2.1
 have hrc:=fun h=>(rdPres_ok Rr.length Rr [] (Nat.le_refl _) hR (by simp) h).2.2.1
 generalize rdPres G [] = PG at *
 generalize rdPres Rr [] = PR at *
 clear a1 a2 a3 a4 a5 a6
 obtain ⟨g',wd,okg⟩:=PG
 obtain ⟨r',rc,okr⟩:=PR
 simp only [List.length_nil,Nat.zero_add] at hx p1 p2 hwd hrc
 cases okg
 · rw [if_pos rfl] at hx
   refine SWp_of (tr:=[]) mixed (by kernel_rfl) ?_
   simp
   refine ⟨_,_,.inl (by simpa using p1),by simp,?_⟩
   simp
   refine ⟨_,_,.inl (by simpa using h30z 3 10 _),by simp,?_⟩
   simp [← hx,noteM,msg0,att0]
 rw [if_neg (by simp)] at hx
 cases okr
 · rw [if_pos rfl] at hx
   refine SWp_of (tr:=[]) mixed (by kernel_rfl) ?_
   simp
   refine ⟨_,_,.inl (by simpa using p1),by simp,?_⟩
   simp
   refine ⟨_,_,.inl (by simpa using p2),by simp,?_⟩
   simp
   refine ⟨_,_,.inl (by simpa using h30z 3 10 _),by simp,?_⟩
   simp [← hx,noteM,msg0,att0]
 rw [if_neg (by simp)] at hx
 refine SWp_cut (tr:=[]) mixed (by kernel_rfl) [(1,.bool true),(4,.ptr 0 0),(5,.ptr 1 0),(9,.ptr 3 0),(10,encBs A),(11,.ptr 4 0)] [cellsM msg0,cellsM msg0,[],[encBs g',.sl 2 (wd.map encPre) .own],[encBs r',.sl 2 (rc.map encPre) .own]] ?_ ?_
 · simp
   refine ⟨_,_,.inl (by simpa using p1),by simp,?_⟩
   simp
   refine ⟨_,_,.inl (by simpa using p2),by simp,?_⟩
   simp
 refine SWp_cut (tr:=[]) mixed (by kernel_rfl) [(1,.bool true),(4,.ptr 0 0),(5,.ptr 1 0),(10,encBs A),(12,.ptr 5 0)] [cellsM msg0,cellsM msg0,[],[],[],cellsM (updMsg wd att0 rc)] ?_ ?_
 · simp [updMsg,msg0,att0]
 have hwd:=hwd rfl
 have hrc:=hrc rfl
 clear p1 p2 hGb hAb hRb
 obtain ⟨al,hal⟩:∃ n,A.length = n:=⟨_,rfl⟩
 obtain ⟨r,hr⟩:∃ n,rc.length = n:=⟨_,rfl⟩
 rw [hal,hr] at hx
 have h12:=fun H=>(t12 A hA hAl).up' H rfl rfl
 have hdk:=fun h=>decAt_ok hA h
 refine SWp_of (tr:=[]) mixed (by kernel_rfl) ?_
 by_cases g5:al = 0 ∧ r = 0
 · rw [if_pos g5] at hx
   obtain ⟨g5,g6⟩:=g5
   have h35:=fun H=>(t35 (updMsg wd att0 rc) (updMsg_okC (by omega) (by omega) szAt_0 (.inr rfl))).up' H rfl rfl
   simp [hal,hr,g5,g6,updMsg,msg0,att0]
   unfold finU at hx
   generalize chkM (updMsg wd att0 rc) = e at *
   refine ⟨_,_,.inl (by simpa [updMsg,msg0,att0] using h35 _),by simp,?_⟩
   by_cases he:e = 0
   · rw [if_neg (by simp [he])] at hx
     simp [he,← hx,updMsg,msg0,att0]
   · rw [if_pos he] at hx
     simp [he]
     refine ⟨_,_,.inl (by simpa using h30z 3 10 _),by simp,?_⟩
     simp [← hx,noteM,msg0,att0]
 rw [if_neg g5] at hx
 have hbr:(0 < al) ∨ (al = 0 ∧ 0 < r):=by omega
 obtain ⟨D,hD⟩:∃ D,decAt A = D:=⟨_,rfl⟩
 rw [hD] at hx h12 hdk
 obtain ⟨a,e0⟩:=D
 simp only at hx h12 hdk
 rcases hbr with hb1 | ⟨hb1,hb2⟩
 · have ha0:¬ al = 0:=by omega
   have ha1:(0:Int) < al:=by omega
   simp [hal,hr,ha0,ha1,updMsg,msg0,att0,hb1]
   refine ⟨_,_,.inl (by simpa using h12 _),by simp,?_⟩
   by_cases e6:e0 = 6
   · rw [if_pos (by omega),if_pos e6] at hx
     simp [e6]
     refine ⟨_,_,.inl (by simpa using h30z 3 3 _),by simp,?_⟩
     simp [← hx,noteM,msg0,att0,e6]
   by_cases ez:e0 = 0
   case neg =>
     rw [if_pos ez,if_neg e6] at hx
     simp [e6,ez]
     refine ⟨_,_,.inl (by simpa using h30z 3 1 _),by simp,?_⟩
     simp [← hx,noteM,msg0,att0]
   rw [if_neg (by simp [ez])] at hx
   obtain ⟨y1,-,-,y4⟩:=hdk ez
   by_cases g7:r = 0
   · have g7':(r:Int) = 0:=by omega
     rw [if_pos g7] at hx
     simp [ez,hal,hr,ha0,ha1,hb1,g7,g7']
     refine ⟨_,_,.inl (by simpa using h30z 3 1 _),by simp,?_⟩
     simp [← hx,noteM,msg0,att0]
   have g7':¬ (r:Int) = 0:=by omega
   rw [if_neg g7] at hx
   have hne:rc ≠ []:=by intro e; rw [e] at hr; simp at hr; omega
   have h35:=fun H=>(t35 (updMsg wd a rc) (updMsg_okC (by omega) (by omega) (y1.sz (by omega)) (.inl hne))).up' H rfl rfl
   simp [ez,hal,hr,ha0,ha1,g7,g7',hb1]
   unfold finU at hx
   generalize chkM (updMsg wd a rc) = e at *
   refine ⟨_,_,.inl (by simpa [updMsg,msg0,att0] using h35 _),by simp,?_⟩
   by_cases he:e = 0
   · rw [if_neg (by simp [he])] at hx
     simp [he,← hx,updMsg,msg0,att0]
   · rw [if_pos he] at hx
     simp [he]
     refine ⟨_,_,.inl (by simpa using h30z 3 10 _),by simp,?_⟩
     simp [← hx,noteM,msg0,att0]
 · have hr0:0 < r:=hb2
   have hr1:(0:Int) < r:=by omega
   simp [hal,hr,hb1,hr0,hr1,updMsg,msg0,att0]
   refine ⟨_,_,.inl (by simpa using h12 _),by simp,?_⟩
   by_cases e6:e0 = 6
   · rw [if_pos (by omega),if_pos e6] at hx
     simp [e6]
     refine ⟨_,_,.inl (by simpa using h30z 3 3 _),by simp,?_⟩
     simp [← hx,noteM,msg0,att0,e6]
   by_cases ez:e0 = 0
   case neg =>
     rw [if_pos ez,if_neg e6] at hx
     simp [e6,ez]
     refine ⟨_,_,.inl (by simpa using h30z 3 1 _),by simp,?_⟩
     simp [← hx,noteM,msg0,att0]
   rw [if_neg (by simp [ez])] at hx
   obtain ⟨y1,-,-,y4⟩:=hdk ez
   have g7:¬ r = 0:=by omega
   have g7':¬ (r:Int) = 0:=by omega
   rw [if_neg g7] at hx
   have hne:rc ≠ []:=by intro e; rw [e] at hr; simp at hr; omega
   have h35:=fun H=>(t35 (updMsg wd a rc) (updMsg_okC (by omega) (by omega) (y1.sz (by omega)) (.inl hne))).up' H rfl rfl
   simp [ez,hal,hr,hb1,hr0,hr1,g7,g7']
   unfold finU at hx
   generalize chkM (updMsg wd a rc) = e at *
   refine ⟨_,_,.inl (by simpa [updMsg,msg0,att0] using h35 _),by simp,?_⟩
   by_cases he:e = 0
   · rw [if_neg (by simp [he])] at hx
     simp [he,← hx,updMsg,msg0,att0]
   · rw [if_pos he] at hx
     simp [he]
     refine ⟨_,_,.inl (by simpa using h30z 3 10 _),by simp,?_⟩
     simp [← hx,noteM,msg0,att0]
end Go.Proofs.YtapgoboiljjecaaGreatDoor

/- Messages are decoded (no program). -/
namespace Go.Proofs.YtapgoboiljjecaaGreatDoor
open Go Go.Am
set_option linter.unusedSimpArgs false
def noteB (b:List Int):Msg:=noteM (b.getD 0 0) (b.getD 1 0) (b.drop 2)
def kindM (k:Int):Msg:={ msg0 with Kind:=k }
def bodyD (b:List Int):List Int:=(b.take (numAt b 16 2).toNat).drop 19
def lenM (b:List Int):Msg:=noteM 1 2 [b.getD 16 0,b.getD 17 0]
def decK (k:Int) (b:List Int) (f:Msg):Msg × Msg × Int :=
 if k = 1 then decOpen b else if k = 2 then decUpd b else if k = 3 then (noteB b,if chkM (noteB b) = 0 then msg0 else f,chkM (noteB b))
 else if k = 5 then (kindM 5,if b = [0,1,0,1] then msg0 else f,if b = [0,1,0,1] then 0 else 2) else (kindM k,msg0,0)
def decM (b:List Int):Msg × Nat × Msg × Int :=
 if b.length < 19 then (msg0,0,msg0,3)
 else if ¬ (b.take 16).all (fun x=>decide (x = 255)) = true then (msg0,0,noteM 1 1 [],2)
 else if numAt b 16 2 < 19 then (msg0,0,lenM b,2)
 else if b.getD 18 0 < 1 ∨ 5 < b.getD 18 0 then (msg0,0,noteM 1 3 [b.getD 18 0],15)
 else if badLen (b.getD 18 0) (numAt b 16 2) = true then (msg0,0,lenM b,2)
 else if (b.length:Int) < numAt b 16 2 then (msg0,0,msg0,3)
 else if (decK (b.getD 18 0) (bodyD b) (lenM b)).2.2 ≠ 0 then (msg0,0,(decK (b.getD 18 0) (bodyD b) (lenM b)).2.1,(decK (b.getD 18 0) (bodyD b) (lenM b)).2.2)
 else ((decK (b.getD 18 0) (bodyD b) (lenM b)).1,(numAt b 16 2).toNat,msg0,0)
theorem noteM_okC {c s:Int} {d:List Int} (hd:isB d):okC (noteM c s d) :=
 ⟨⟨by simp [noteM,msg0],by simp [noteM,msg0],by simp [noteM,msg0],by simp [noteM,msg0],szAt_0,hd⟩,rfl,.inr rfl⟩
theorem kindM_okC {k:Int} (h:k = 4 ∨ k = 5):okC (kindM k):=by
 refine ⟨⟨by simp [kindM,msg0],by simp [kindM,msg0],by simp [kindM,msg0],by simp [kindM,msg0],szAt_0,by simp [kindM,msg0,isB]⟩,?_,.inr rfl⟩
 rcases h with rfl | rfl <;> rfl
theorem kindM_chk {k:Int} (h:k = 4 ∨ k = 5):chkM (kindM k) = 0:=by
 rcases h with rfl | rfl <;> simp [chkM,kindM,msg0]
theorem decK_ok {k:Int} {b:List Int} {f:Msg} (hk:1 ≤ k ∧ k ≤ 5) (hb:isB b) (hl:b.length + 19 ≤ 65535) (hn:¬ badLen k ((b.length:Int) + 19) = true) (h:(decK k b f).2.2 = 0):okE (decK k b f).1 ∧ bodyM (decK k b f).1 = b ∧ (decK k b f).1.Kind = k:=by
 unfold decK at h ⊢
 by_cases k1:k = 1
 · rw [if_pos k1] at h ⊢
   subst k1
   have h10:10 ≤ b.length:=by simp [badLen] at hn; omega
   obtain ⟨q1,q2,q3,q4⟩:=decOpen_ok hb h10 h
   rw [q1]
   simp only
   have hbody:bodyM (opM b) = b:=q4
   have hoc:=opM_okC b hb q3
   obtain ⟨c1,c2,c3,-,-⟩:=capsOf_ok (isB_drop hb 10) (getD_in hb 9) q3
   have i1:=numAt_in hb 1 2
   have i3:=numAt_in hb 3 2
   have hAS:in32 (asOf (numAt b 1 2) (capsOf (b.drop 10) (b.getD 9 0)).1):=asOf_in (by omega) c1
   refine ⟨⟨hoc,q2,fun _=>⟨getD_in hb 0,?_,?_,numAt_in hb 5 4,c1,c3⟩,fun e=>by simp [opM,openMsg] at e,fun e=>by simp [opM,openMsg] at e,by simp [opM,openMsg],by rw [hbody]; omega⟩,hbody,rfl⟩
   · show in32 (shortI (asOf (numAt b 1 2) (capsOf (b.drop 10) (b.getD 9 0)).1))
     unfold shortI
     split
     · unfold in32; omega
     · exact hAS
   · show in32 (numAt b 3 2)
     unfold in32; omega
 rw [if_neg k1] at h ⊢
 by_cases k2:k = 2
 · rw [if_pos k2] at h ⊢
   obtain ⟨wd,a,rc,q1,q2,q3,q4,q5,q6,q7,q8⟩:=decUpd_ok hb (by omega) h
   rw [q1]
   simp only
   have hbody:bodyM (updMsg wd a rc) = b:=q4
   exact ⟨⟨q3,q2,fun e=>by simp [updMsg] at e,fun _=>⟨q5,q6,q7,q8⟩,fun e=>by simp [updMsg] at e,by simp [updMsg],by rw [hbody]; omega⟩,hbody,k2.symm⟩
 rw [if_neg k2] at h ⊢
 by_cases k3:k = 3
 · rw [if_pos k3] at h ⊢
   simp only at h ⊢
   subst k3
   have hl2:2 ≤ b.length:=by simp [badLen] at hn; omega
   have hbody:bodyM (noteB b) = b:=by
     show [b.getD 0 0,b.getD 1 0] ++ b.drop 2 = b
     exact (two_bytes hl2).symm
   exact ⟨⟨noteM_okC (isB_drop hb 2),h,fun e=>by simp [noteB,noteM] at e,fun e=>by simp [noteB,noteM] at e,fun _=>⟨getD_in hb 0,getD_in hb 1⟩,by simp [noteB,noteM],by rw [hbody]; omega⟩,hbody,rfl⟩
 rw [if_neg k3] at h ⊢
 by_cases k5:k = 5
 · rw [if_pos k5] at h ⊢
   simp only at h ⊢
   have hb5:b = [0,1,0,1]:=by
     by_cases e:b = [0,1,0,1]
     · exact e
     · rw [if_neg e] at h; simp at h
   have hbody:bodyM (kindM 5) = b:=by rw [hb5]; rfl
   exact ⟨⟨kindM_okC (.inr rfl),kindM_chk (.inr rfl),fun e=>by simp [kindM] at e,fun e=>by simp [kindM] at e,fun e=>by simp [kindM] at e,by simp [kindM],by rw [hbody]; omega⟩,hbody,k5.symm⟩
 rw [if_neg k5] at h ⊢
 have k4:k = 4:=by omega
 subst k4
 simp only
 have hl0:b = []:=List.eq_nil_of_length_eq_zero (by simp [badLen] at hn; omega)
 have hbody:bodyM (kindM 4) = b:=by rw [hl0]; rfl
 exact ⟨⟨kindM_okC (.inl rfl),kindM_chk (.inl rfl),fun e=>by simp [kindM] at e,fun e=>by simp [kindM] at e,fun e=>by simp [kindM] at e,by simp [kindM],by rw [hbody]; omega⟩,hbody,rfl⟩
theorem all255 {b:List Int} (h:b.all (fun x=>decide (x = 255)) = true):b = List.replicate b.length 255:=by
 rw [List.eq_replicate_iff]
 exact ⟨rfl,fun x hx=>by simpa using List.all_eq_true.1 h x hx⟩
theorem decM_ok {b:List Int} (hb:isB b) (hl:b.length ≤ 65535) (h:(decM b).2.2.2 = 0):okE (decM b).1 ∧ (decM b).2.1 ≤ b.length ∧ msgB (decM b).1 = b.take (decM b).2.1:=by
 unfold decM at h ⊢
 by_cases g1:b.length < 19
 · rw [if_pos g1] at h; simp at h
 rw [if_neg g1] at h ⊢
 by_cases g2:¬ (b.take 16).all (fun x=>decide (x = 255)) = true
 · rw [if_pos g2] at h; simp at h
 rw [if_neg g2] at h ⊢
 by_cases g3:numAt b 16 2 < 19
 · rw [if_pos g3] at h; simp at h
 rw [if_neg g3] at h ⊢
 by_cases g4:b.getD 18 0 < 1 ∨ 5 < b.getD 18 0
 · rw [if_pos g4] at h; simp at h
 rw [if_neg g4] at h ⊢
 by_cases g5:badLen (b.getD 18 0) (numAt b 16 2) = true
 · rw [if_pos g5] at h; simp at h
 rw [if_neg g5] at h ⊢
 by_cases g6:(b.length:Int) < numAt b 16 2
 · rw [if_pos g6] at h; simp at h
 rw [if_neg g6] at h ⊢
 by_cases g7:(decK (b.getD 18 0) (bodyD b) (lenM b)).2.2 = 0
 case neg=>rw [if_pos g7] at h; exact (g7 h).elim
 rw [if_neg (fun q=>q g7)]
 simp only
 have i16:=numAt_in hb 16 2
 obtain ⟨n,hn⟩:∃ n:Nat,numAt b 16 2 = n:=⟨(numAt b 16 2).toNat,by omega⟩
 have hbd:bodyD b = (b.take n).drop 19:=by unfold bodyD; rw [hn]; rfl
 have hbl:(bodyD b).length = n - 19:=by rw [hbd]; simp only [List.length_drop,List.length_take]; omega
 have hbb:isB (bodyD b):=by rw [hbd]; exact isB_drop (isB_take hb _) _
 rw [hn] at g3 g5 g6 ⊢
 have hlen19:((bodyD b).length:Int) + 19 = n:=by omega
 obtain ⟨r1,r2,r3⟩:=decK_ok (f:=lenM b) (k:=b.getD 18 0) (by omega) hbb (by omega) (by rw [hlen19]; exact g5) g7
 generalize decK (b.getD 18 0) (bodyD b) (lenM b) = D at *
 refine ⟨r1,by omega,?_⟩
 unfold msgB
 rw [r2,r3,hbl]
 have e19:((19 + (n - 19):Nat):Int) = numAt b 16 2:=by omega
 rw [e19,numB_numAt hb 16 2 (by omega)]
 have f16:=all255 (by simpa using g2:(b.take 16).all (fun x=>decide (x = 255)) = true)
 have l16:(b.take 16).length = 16:=by simp only [List.length_take]; omega
 rw [l16] at f16
 rw [← f16]
 have e18:[b.getD 18 0] = (b.drop 18).take 1:=by
   rw [← numB_numAt hb 18 1 (by omega),numAt_1]
   exact (one_byte (by have:=getD_in hb 18; omega)).symm
 rw [e18,hbd]
 simp only [Int.toNat_natCast]
 have step:∀ i j,b.drop i = (b.drop i).take j ++ b.drop (i + j):=fun i j=>by rw [← List.drop_drop,List.take_append_drop]
 have hd:(b.take n).drop 19 = (b.drop 19).take (n - 19):=List.drop_take ..
 rw [hd]
 have t1:b.take n = b.take 16 ++ ((b.drop 16).take 2 ++ ((b.drop 18).take 1 ++ (b.drop 19).take (n - 19))):=by
   have e:n = 16 + (2 + (1 + (n - 19))):=by omega
   conv=>lhs; rw [e]
   rw [List.take_add,List.take_add,List.drop_drop,List.take_add,List.drop_drop]
 rw [t1]
 simp
end Go.Proofs.YtapgoboiljjecaaGreatDoor

/- Messages are decoded: the walk. -/
namespace Go.Proofs.YtapgoboiljjecaaGreatDoor
open Go Go.Am
set_option linter.unusedSimpArgs false
@[simp] def tr10:List Nat:=[900001000050,900001000054,900002000054,1500054,2500054,900001000073,900002000073,1500073,2500073,900001000107,900002000107,1500107,600037]
def zeroC:List AVal:=[.int .i64 0,.int .i64 0,.int .i64 0,.int .i64 0,.int .u32 0,.sl 0 [] .full,.sl 0 [] .full,.int .i64 0,.sl 0 [] .full,.int .u32 0,.bool false,.int .i64 0,.bool false,.int .i64 0,.bool false,.bool false,.int .i64 0,.int .u32 0,.sl 0 [] .full,.bool false,.int .u32 0,.sl 0 [] .full,.sl 0 [] .full,.sl 0 [] .full,.int .i64 0,.int .i64 0,.sl 0 [] .full]
structure I37 (e:Int) (M F:Msg) (l:Nat → Bool) (s:ASt):Prop where
  t4:s.t 4 = .ptr 0 0
  t6:s.t 6 = .ptr 1 0
  t7:s.t 7 = .int .i64 e
  t5:l 4 = true → s.t 5 = .int .i64 0
  t137:l 0 = true → s.t 137 = .agg zeroC
  t138:l 1 = true → s.t 138 = .agg (cellsM F)
  t139:l 2 = true → s.t 139 = .int .i64 e
  H:s.H = [if l 3 = true then zeroC else cellsM M,cellsM F]
theorem I37.put {e:Int} {M F:Msg} {l:Nat → Bool} {s:ASt} (h:I37 e M F l s) (i d:Nat) (v:AVal) (h3:i ≠ 3) (hd:(i = 0 ∧ d = 137 ∧ v = .agg zeroC) ∨ (i = 1 ∧ d = 138 ∧ v = .agg (cellsM F)) ∨ (i = 2 ∧ d = 139 ∧ v = .int .i64 e) ∨ (i = 4 ∧ d = 5 ∧ v = .int .i64 0) ∨ (i = 6 ∧ d = 7 ∧ v = .int .i64 e)) :
   I37 e M F (fun j=>if j = i then true else l j) ⟨upd s.t d v,s.H⟩:=by
 have hH:s.H = [if (fun j=>if j = i then true else l j) 3 = true then zeroC else cellsM M,cellsM F]:=by
   rw [h.H]
   have:¬ 3 = i:=fun q=>h3 q.symm
   simp only [if_neg this]
 rcases hd with ⟨rfl,rfl,rfl⟩ | ⟨rfl,rfl,rfl⟩ | ⟨rfl,rfl,rfl⟩ | ⟨rfl,rfl,rfl⟩ | ⟨rfl,rfl,rfl⟩
 · exact ⟨h.t4,h.t6,h.t7,h.t5,fun _=>rfl,h.t138,h.t139,hH⟩
 · exact ⟨h.t4,h.t6,h.t7,h.t5,h.t137,fun _=>rfl,h.t139,hH⟩
 · exact ⟨h.t4,h.t6,h.t7,h.t5,h.t137,h.t138,fun _=>rfl,hH⟩
 · exact ⟨h.t4,h.t6,h.t7,fun _=>rfl,h.t137,h.t138,h.t139,hH⟩
 · exact ⟨h.t4,h.t6,rfl,h.t5,h.t137,h.t138,h.t139,hH⟩
set_option maxHeartbeats 32000000 in
set_option maxRecDepth 20000 in
theorem t10 (b:List Int) (hb:isB b) (hlen:b.length ≤ 65535) :
   CFun Tryz.prog 10 [encBs b,.bool true] [] (.tup [encM (decM b).1,.int .i64 (decM b).2.1,encM (decM b).2.2.1,.int .i64 (decM b).2.2.2]) []:=by
 refine CFun.introS (fz:=[]) (n:=143) (rs:=[.cell 4 55,.tmp 5,.cell 6 55,.tmp 7]) Tryz.func10 rfl (by kernel_rfl) rfl rfl (by simp) (by simp) ?_
 have h30z:=fun c sb H=>((t30 c sb []).wk [.int .i64 c,.int .i64 sb,.sl 0 [] .full] (by simp) (by simp [All2,LeS])).up' H rfl rfl
 obtain ⟨R,hx⟩:∃ R,decM b = R:=⟨_,rfl⟩
 rw [hx]
 unfold decM at hx
 obtain ⟨m,hm⟩:∃ m,b.length = m:=⟨_,rfl⟩
 rw [hm] at hx hlen
 refine SWp_cut (tr:=[]) mixed (by kernel_rfl) [(0,encBs b),(1,.bool true),(4,.ptr 0 0),(6,.ptr 1 0),(7,.int .i64 0)] [cellsM msg0,cellsM msg0] ?_ ?_
 · simp [msg0,att0]
 by_cases g1:m < 19
 · rw [if_pos g1] at hx
   have g1':(m:Int) < 19:=by omega
   refine SWp_of (tr:=tr10) mixed (by kernel_rfl) ?_
   simp [hm,g1,g1',← hx,msg0,att0]
 rw [if_neg g1] at hx
 have g1':¬ (m:Int) < 19:=by omega
 refine SWp_cut (tr:=[]) mixed (by kernel_rfl) [(0,encBs b),(1,.bool true),(4,.ptr 0 0),(6,.ptr 1 0),(7,.int .i64 0)] [cellsM msg0,cellsM msg0] ?_ ?_
 · simp [hm,g1,g1']
 have l16:(b.take 16).length = 16:=by simp; omega
 have hget:∀ i,i < 16 → (b.take 16)[i]? = some (b.getD i 0):=fun i hi=>by
   rw [List.getElem?_take,if_pos hi]
   exact get_getD (by omega)
 have htk:(b.map enc8).take 16 = (b.take 16).map enc8:=(List.map_take).symm
 obtain ⟨c,hc⟩:∃ c,b.take 16 = c:=⟨_,rfl⟩
 have hcb:∀ i,i < 16 → c[i]? = some (b.getD i 0):=by rw [← hc]; exact hget
 rw [hc] at hx l16 htk
 clear hget
 have h16m:(16:Int) ≤ m:=by omega
 have h16n:16 ≤ m:=by omega
 by_cases g2:c.all (fun x=>decide (x = 255)) = true
 case neg =>
   rw [if_pos g2] at hx
   refine SWp_of (tr:=tr10) mixed (by kernel_rfl) ?_
   simp [hm,h16m,h16n]
   generalize hC:Code.seq (Code.region 9 _ _) _ = C9
   refine LoopK.intro (tr:=tr10) mixed (by kernel_rfl) (fun i:Nat=>[(0,encBs b),(4,.ptr 0 0),(6,.ptr 1 0),(21,.sl 1 (c.map enc8) .sh),(22,.int .i64 16),(23,.int .i64 i)]) (fun _=>[cellsM msg0,cellsM msg0]) (fun i=>i ≤ 16 ∧ ∀ j,j < i → b.getD j 0 = 255) (fun i=>16 - i) 0 ?_ ?_ ?_
   · simp
   · simp [htk]
   · rintro i ⟨i1,i2⟩
     by_cases hi:i < 16
     · have g:=hcb i hi
       obtain ⟨_,ga⟩:=List.getElem?_eq_some_iff.1 g
       have w1:IntKind.i64.wrap ((i:Int) + 1) = i + 1:=wrap_in (by omega)
       have hi':(i:Int) < 16:=by omega
       have i3:b.getD i 0 = 255 → ∀ j,j < i + 1 → b.getD j 0 = 255:=fun e j hj=>by
         by_cases ej:j = i
         · rw [ej]; exact e
         · exact i2 j (by omega)
       generalize b.getD i 0 = x at *
       by_cases hx5:x = 255
       · simp [hi,hi',g,ga,hx5,w1]
         exact ⟨i + 1,⟨by omega,i3 hx5⟩,by omega,by simp⟩
       · simp [hi,hi',g,ga,hx5]
         refine ⟨_,_,.inl (by simpa using h30z 1 1 _),by simp,?_⟩
         simp [← hx,noteM,msg0,att0]
     · exfalso
       have e:i = 16:=by omega
       subst e
       refine g2 (List.all_eq_true.2 fun x hx=>?_)
       obtain ⟨j,hj,e⟩:=List.mem_iff_getElem.1 hx
       have:=hcb j (by omega)
       rw [List.getElem?_eq_getElem hj,e,i2 j (by omega)] at this
       simpa using this
 rw [if_neg (by simp [g2])] at hx
 have h255:∀ j,j < 16 → b.getD j 0 = 255:=fun j hj=>by
   have h1:=hcb j hj
   have h2:=List.all_eq_true.1 g2 _ (List.mem_of_getElem? h1)
   simpa using h2
 refine SWp_cut (tr:=[]) mixed (by kernel_rfl) [(0,encBs b),(1,.bool true),(4,.ptr 0 0),(6,.ptr 1 0),(7,.int .i64 0)] [cellsM msg0,cellsM msg0] ?_ ?_
 · simp [hm,h16m,h16n]
   refine LoopK.intro (tr:=[]) mixed (by kernel_rfl) (fun i:Nat=>[(0,encBs b),(1,.bool true),(4,.ptr 0 0),(6,.ptr 1 0),(7,.int .i64 0),(21,.sl 1 (c.map enc8) .sh),(22,.int .i64 16),(23,.int .i64 i)]) (fun _=>[cellsM msg0,cellsM msg0]) (fun i=>i ≤ 16) (fun i=>16 - i) 0 ?_ ?_ ?_
   · simp
   · simp [htk]
   · rintro i i1
     by_cases hi:i < 16
     · have g:=hcb i hi
       obtain ⟨_,ga⟩:=List.getElem?_eq_some_iff.1 g
       have w1:IntKind.i64.wrap ((i:Int) + 1) = i + 1:=wrap_in (by omega)
       have hi':(i:Int) < 16:=by omega
       have hx5:=h255 i hi
       rw [hx5] at g ga
       simp [hi,hi',g,ga,w1]
       exact ⟨i + 1,by omega,by omega,by simp⟩
     · have hi':¬ (i:Int) < 16:=by omega
       simp [hi,hi']
 clear h255 g2 hcb htk l16 hc
 have i16:=numAt_in hb 16 2
 have i18:=getD_in hb 18
 have h31:=fun H=>(c93 b hb (by omega) 16 2 (by omega) (by omega)).up' H rfl rfl
 rw [if_pos (by omega)] at h31
 have y16:=get_getD (b:=b) (i:=16) (by omega)
 have y17:=get_getD (b:=b) (i:=17) (by omega)
 have y18:=get_getD (b:=b) (i:=18) (by omega)
 obtain ⟨_,ya16⟩:=List.getElem?_eq_some_iff.1 y16
 obtain ⟨_,ya17⟩:=List.getElem?_eq_some_iff.1 y17
 obtain ⟨_,ya18⟩:=List.getElem?_eq_some_iff.1 y18
 have d16:(16:Int) < m:=by omega
 have d17:(17:Int) < m:=by omega
 have d18:(18:Int) < m:=by omega
 have n16:16 < m:=by omega
 have n17:17 < m:=by omega
 have n18:18 < m:=by omega
 have hLM:lenM b = noteM 1 2 [b.getD 16 0,b.getD 17 0]:=rfl
 obtain ⟨n,hn⟩:∃ n:Nat,numAt b 16 2 = n:=⟨(numAt b 16 2).toNat,by omega⟩
 have hbd:bodyD b = (b.take n).drop 19:=by unfold bodyD; rw [hn]; rfl
 rw [hn] at hx h31 i16
 rw [Int.toNat_natCast] at hx
 have wn:IntKind.i64.wrap (n:Int) = n:=wrap_in (by omega)
 have wk:IntKind.i64.wrap (b.getD 18 0) = b.getD 18 0:=wrap_in (by omega)
 have hlen30:=(t30 1 2 [b.getD 16 0,b.getD 17 0]).wk [.int .i64 1,.int .i64 2,.sl 1 ([b.getD 16 0,b.getD 17 0].map enc8) .full] (by simp) ⟨rfl,rfl,whole,trivial⟩
 have hk30:=fun H=>((t30 1 3 [b.getD 18 0]).wk [.int .i64 1,.int .i64 3,.sl 1 ([b.getD 18 0].map enc8) .full] (by simp) ⟨rfl,rfl,whole,trivial⟩).up' H rfl rfl
 rw [← hLM] at hlen30
 generalize lenM b = LM at *
 generalize b.getD 16 0 = x16 at *
 generalize b.getD 17 0 = x17 at *
 generalize b.getD 18 0 = k at *
 refine SWp_cut (tr:=[]) mixed (by kernel_rfl) [(0,encBs b),(1,.bool true),(4,.ptr 0 0),(6,.ptr 1 0),(7,.int .i64 0),(10,.int .u64 n)] [cellsM msg0,cellsM msg0] ?_ ?_
 · simp
   refine ⟨_,_,.inl (by simpa using h31 _),by simp,?_⟩
   simp
 refine SWp_cut (tr:=[]) mixed (by kernel_rfl) [(0,encBs b),(1,.bool true),(4,.ptr 0 0),(5,.int .i64 n),(6,.ptr 1 0),(7,.int .i64 0)] [cellsM msg0,cellsM msg0] ?_ ?_
 · simp [wn]
 refine SWp_cut (tr:=[]) mixed (by kernel_rfl) [(0,encBs b),(1,.bool true),(4,.ptr 0 0),(5,.int .i64 n),(6,.ptr 1 0),(7,.int .i64 0),(12,.int .i64 k)] [cellsM msg0,cellsM msg0] ?_ ?_
 · simp [hm,d18,n18,y18,ya18,wk]
 refine SWp_cut (tr:=[900001000050]) mixed (by kernel_rfl) [(0,encBs b),(1,.bool true),(4,.ptr 0 0),(5,.int .i64 n),(6,.ptr 1 0),(7,.int .i64 0),(12,.int .i64 k),(13,.ptr 2 0)] [cellsM msg0,cellsM msg0,cellsM LM] ?_ ?_
 · simp [hm,d16,d17,n16,n17,y16,ya16,y17,ya17]
   refine ⟨_,by simpa using hlen30,by simp [noid,noid0],?_⟩
   simp
 have h32:=fun H=>(t32 k n).up' H rfl rfl
 by_cases g3:(n:Int) < 19
 · rw [if_pos g3] at hx
   refine SWp_of (tr:=tr10) mixed (by kernel_rfl) ?_
   simp [g3,← hx,msg0,att0]
 rw [if_neg g3] at hx
 by_cases g4:k < 1
 · rw [if_pos (.inl g4)] at hx
   refine SWp_of (tr:=tr10) mixed (by kernel_rfl) ?_
   simp [g3,g4,hm,d18,n18,y18,ya18]
   refine ⟨_,_,.inl (by simpa using hk30 _),by simp,?_⟩
   simp [← hx,noteM,msg0,att0]
 by_cases g5:5 < k
 · rw [if_pos (.inr g5)] at hx
   refine SWp_of (tr:=tr10) mixed (by kernel_rfl) ?_
   simp [g3,g4,g5,hm,d18,n18,y18,ya18]
   refine ⟨_,_,.inl (by simpa using hk30 _),by simp,?_⟩
   simp [← hx,noteM,msg0,att0]
 rw [if_neg (by omega)] at hx
 by_cases g6:badLen k n = true
 · rw [if_pos g6] at hx
   rw [g6] at h32
   refine SWp_of (tr:=tr10) mixed (by kernel_rfl) ?_
   simp [g3,g4,g5]
   refine ⟨_,_,.inl (by simpa using h32 _),by simp,?_⟩
   simp [← hx,msg0,att0]
 rw [if_neg g6] at hx
 have g6':badLen k n = false:=by simpa using g6
 rw [g6'] at h32
 by_cases g7:(m:Int) < n
 · rw [if_pos g7] at hx
   refine SWp_of (tr:=tr10) mixed (by kernel_rfl) ?_
   simp [g3,g4,g5]
   refine ⟨_,_,.inl (by simpa using h32 _),by simp,?_⟩
   simp [hm,g7,← hx,msg0,att0]
 rw [if_neg g7] at hx
 have g7n:n ≤ m:=by omega
 refine SWp_cut (tr:=tr10) mixed (by kernel_rfl) [(0,encBs b),(1,.bool true),(4,.ptr 0 0),(5,.int .i64 n),(6,.ptr 1 0),(7,.int .i64 0),(12,.int .i64 k),(13,.ptr 2 0)] [cellsM msg0,cellsM msg0,cellsM LM] ?_ ?_
 · simp [g3,g4,g5]
   refine ⟨_,_,.inl (by simpa using h32 _),by simp,?_⟩
   simp [hm,g7]
 have hbb:isB (bodyD b):=by rw [hbd]; exact isB_drop (isB_take hb _) _
 have hbl:(bodyD b).length = n - 19:=by rw [hbd]; simp only [List.length_drop,List.length_take]; omega
 have hbm:((b.map enc8).take n).drop 19 = (bodyD b).map enc8:=by rw [hbd,List.map_drop,List.map_take]
 generalize bodyD b = B at *
 have d19:(19:Int) ≤ n:=by omega
 have dnm:(n:Int) ≤ m:=by omega
 refine SWp_cut (tr:=[]) mixed (by kernel_rfl) [(1,.bool true),(4,.ptr 0 0),(5,.int .i64 n),(6,.ptr 1 0),(7,.int .i64 0),(12,.int .i64 k),(13,.ptr 2 0),(14,encBs B)] [cellsM msg0,cellsM msg0,cellsM LM] ?_ ?_
 · simp [hm,d19,dnm,g7n,hbm]
 refine SWp_cut (tr:=[]) mixed (by kernel_rfl) [(1,.bool true),(4,.ptr 0 0),(5,.int .i64 n),(6,.ptr 1 0),(7,.int .i64 0),(12,.int .i64 k),(13,.ptr 2 0),(14,encBs B)] [cellsM (kindM k),cellsM msg0,cellsM LM] ?_ ?_
 · simp [kindM,msg0,att0]
 obtain ⟨D,hD⟩:∃ D,decK k B LM = D:=⟨_,rfl⟩
 rw [hD] at hx
 refine SWp_cut (tr:=tr10) mixed (by kernel_rfl) [(4,.ptr 0 0),(5,.int .i64 n),(6,.ptr 1 0),(7,.int .i64 D.2.2)] [cellsM D.1,cellsM D.2.1] ?_ ?_
 · unfold decK at hD
   clear hx h30z h31 hlen30 hk30 h32 hbm hbd y16 y17 y18 ya16 ya17 ya18
   by_cases q1:k = 1
   · rw [if_pos q1] at hD
     subst q1
     have h10:10 ≤ B.length:=by simp [badLen] at g6'; omega
     have h33:=fun H=>(t33 B hbb (by omega) h10).up' H rfl rfl
     rw [hD] at h33
     simp [kindM,msg0,att0]
     refine ⟨_,_,.inl (by simpa [kindM,msg0,att0] using h33 _),by simp,?_⟩
     simp
   rw [if_neg q1] at hD
   by_cases q2:k = 2
   · rw [if_pos q2] at hD
     subst q2
     have h10:4 ≤ B.length:=by simp [badLen] at g6'; omega
     have h34:=fun H=>(t34 B hbb (by omega) h10).up' H rfl rfl
     rw [hD] at h34
     simp [kindM,msg0,att0]
     refine ⟨_,_,.inl (by simpa [kindM,msg0,att0] using h34 _),by simp,?_⟩
     simp
   rw [if_neg q2] at hD
   by_cases q3:k = 3
   · rw [if_pos q3] at hD
     subst q3
     have h2:2 ≤ B.length:=by simp [badLen] at g6'; omega
     obtain ⟨l,hl⟩:∃ l,B.length = l:=⟨_,rfl⟩
     rw [hl] at h2 hbl
     have z0:=get_getD (b:=B) (i:=0) (by omega)
     have z1:=get_getD (b:=B) (i:=1) (by omega)
     obtain ⟨_,za0⟩:=List.getElem?_eq_some_iff.1 z0
     obtain ⟨_,za1⟩:=List.getElem?_eq_some_iff.1 z1
     have j0:=getD_in hbb 0
     have j1:=getD_in hbb 1
     have h35:=fun H=>(t35 (noteB B) (noteM_okC (isB_drop hbb 2))).up' H rfl rfl
     have hNB:noteB B = noteM (B.getD 0 0) (B.getD 1 0) (B.drop 2):=rfl
     rw [hNB] at hD h35
     have hdm:(B.map enc8).drop 2 = (B.drop 2).map enc8:=by rw [List.map_drop]
     have hdl:(B.drop 2).length = l - 2:=by simp only [List.length_drop,hl]
     have htk:(B.map enc8).take l = B.map enc8:=List.take_of_length_le (by simp [hl])
     generalize B.getD 0 0 = c0 at *
     generalize B.getD 1 0 = c1 at *
     generalize B.drop 2 = dd at *
     have v0:IntKind.i64.wrap c0 = c0:=wrap_in (by omega)
     have v1:IntKind.i64.wrap c1 = c1:=wrap_in (by omega)
     have e0:(0:Int) < l:=by omega
     have e1:(1:Int) < l:=by omega
     have e2:(2:Int) ≤ l:=by omega
     have e0n:0 < l:=by omega
     have e1n:1 < l:=by omega
     have s1:l - 2 ≤ 140737488355328:=by omega
     generalize chkM (noteM c0 c1 dd) = e at *
     simp [hl,z0,z1,za0,za1,v0,v1,e0,e1,e2,e0n,e1n,h2,htk,hdm,hdl,s1,kindM,msg0,att0]
     refine ⟨_,_,.inl (by simpa [noteM,msg0,att0] using h35 _),by simp,?_⟩
     by_cases he:e = 0
     · rw [if_pos he] at hD
       simp [he,← hD,noteM,msg0,att0]
     · rw [if_neg he] at hD
       simp [he,← hD,noteM,msg0,att0]
   rw [if_neg q3] at hD
   by_cases q5:k = 5
   · rw [if_pos q5] at hD
     subst q5
     have hBb:=isB_b hbb
     have hBa:=abytes8 B
     have hs:isBytes [0,1,0,1] = true:=rfl
     by_cases e:B = [0,1,0,1]
     · rw [if_pos e,if_pos e] at hD
       simp [hBb,hBa,hs,e,← hD,kindM,msg0,att0]
     · rw [if_neg e,if_neg e] at hD
       simp [hBb,hBa,hs,e,← hD,kindM,msg0,att0]
   rw [if_neg q5] at hD
   simp [q1,q2,q3,q5,← hD,kindM,msg0,att0]
 obtain ⟨M,F,e⟩:=D
 simp only at hx
 clear hD
 clear h30z h31 hlen30 hk30 h32 hbm hbd y16 y17 y18 ya16 ya17 ya18 hLM g6 g6' hbb hbl hb hm
 by_cases he:e = 0
 · rw [if_neg (by simp [he])] at hx
   refine SWp_of (tr:=tr10) mixed (by kernel_rfl) ?_
   simp [he,← hx,msg0,att0]
 rw [if_pos he] at hx
 refine SWp_of (tr:=tr10) mixed (by kernel_rfl) ?_
 simp [he]
 refine (show ∀ s0:ASt,s0.t 4 = .ptr 0 0 → s0.t 6 = .ptr 1 0 → s0.t 7 = .int .i64 e → s0.H = [cellsM M,cellsM F] → AnyK Tryz.prog _ _ _ s0 from ?_) _ (by simp) (by simp) (by simp) (by simp)
 intro s0 z4 z6 z7 zH
 refine AnyK_inv (I37 e M F) ?_ ?_ ?_ ?_
 · exact ⟨z4,z6,z7,fun h=>(by cases h),fun h=>(by cases h),fun h=>(by cases h),fun h=>(by cases h),(by rw [zH]; rfl)⟩
 · intro l2 s i2 o hI ho hl hdep
   have hi:i2 < 7:=by have:=(Array.getElem?_eq_some_iff.1 ho).1; simpa using this
   have f4:=hI.t4
   have f6:=hI.t6
   have f7:=hI.t7
   have sH:=hI.H
   generalize hG:I37 e M F _ = GG
   rcases (by omega:i2 = 0 ∨ i2 = 1 ∨ i2 = 2 ∨ i2 = 3 ∨ i2 = 4 ∨ i2 = 5 ∨ i2 = 6) with rfl | rfl | rfl | rfl | rfl | rfl | rfl
   all_goals
     simp at ho
     subst ho
     simp [Region.binds] at hdep
   · simp
     rw [← hG]
     exact hI.put 0 137 _ (by omega) (.inl ⟨rfl,rfl,rfl⟩)
   · have key:∀ v,v = .agg (cellsM F) → GG ⟨upd s.t 138 v,s.H⟩:=fun v hv=>by rw [← hG]; exact hI.put 1 138 v (by omega) (.inr (.inl ⟨rfl,rfl,hv⟩))
     generalize (if l2 3 = true then zeroC else cellsM M) = c0 at sH
     rw [sH] at key
     simp [f6,sH]
     exact key _ (by simp)
   · simp [f7]
     rw [← hG]
     exact hI.put 2 139 _ (by omega) (.inr (.inr (.inl ⟨rfl,rfl,rfl⟩)))
   · have v:=hI.t137 hdep
     rw [hl] at sH
     simp only [Bool.false_eq_true,if_false] at sH
     have key:∀ H',H' = [zeroC,cellsM F] → GG ⟨s.t,H'⟩:=fun H' hH'=>by
       rw [← hG]
       exact ⟨f4,f6,f7,hI.t5,hI.t137,hI.t138,hI.t139,hH'⟩
     unfold zeroC at v
     simp [f4,v,sH]
     exact key _ (by simp [zeroC])
   · simp
     rw [← hG]
     exact hI.put 4 5 _ (by omega) (.inr (.inr (.inr (.inl ⟨rfl,rfl,rfl⟩))))
   · have v:=hI.t138 hdep.1
     have key:∀ H',H' = s.H → GG ⟨s.t,H'⟩:=fun H' hH'=>by
       rw [← hG]
       exact ⟨f4,f6,f7,hI.t5,hI.t137,hI.t138,hI.t139,by rw [hH']; exact hI.H⟩
     rw [sH] at key
     generalize (if l2 3 = true then zeroC else cellsM M) = c0 at *
     simp [f6,v,sH]
     exact key _ (by simp)
   · have v:=hI.t139 hdep.1
     simp [v]
     rw [← hG]
     exact hI.put 6 7 _ (by omega) (.inr (.inr (.inr (.inr ⟨rfl,rfl,rfl⟩))))
 · intro l2 s hI hall
   have al:∀ k,k < 7 → l2 k = true:=fun k hk=>hall k (by simpa using hk)
   have sH:=hI.H
   rw [al 3 (by omega)] at sH
   simp only [if_true] at sH
   have f4:=hI.t4
   have f6:=hI.t6
   have f7:=hI.t7
   have f5:=hI.t5 (al 4 (by omega))
   clear hI hall al
   obtain ⟨tc,Hc⟩:=s
   simp only at sH f4 f5 f6 f7
   subst sH
   simp [f4,f5,f6,f7,zeroC,← hx,msg0,att0]
 · intro i2 o ho e2 he2 hb2
   have hi:i2 < 7:=by have:=(Array.getElem?_eq_some_iff.1 ho).1; simpa using this
   rcases (by omega:i2 = 0 ∨ i2 = 1 ∨ i2 = 2 ∨ i2 = 3 ∨ i2 = 4 ∨ i2 = 5 ∨ i2 = 6) with rfl | rfl | rfl | rfl | rfl | rfl | rfl
   all_goals
     simp at ho
     subst ho
     simp at he2
   all_goals first | (subst he2; simp [Region.binds] at hb2 ⊢; done) | (rcases he2 with rfl | rfl | rfl | rfl <;> simp [Region.binds] at hb2 ⊢; done) | (rcases he2 with rfl | rfl | rfl | rfl | rfl <;> simp [Region.binds] at hb2 ⊢; done) | (rcases he2 with rfl | rfl | rfl | rfl | rfl | rfl | rfl <;> simp [Region.binds] at hb2 ⊢; done) | (rcases he2 with rfl | rfl | rfl | rfl | rfl | rfl | rfl | rfl <;> simp [Region.binds] at hb2 ⊢; done)
end Go.Proofs.YtapgoboiljjecaaGreatDoor
