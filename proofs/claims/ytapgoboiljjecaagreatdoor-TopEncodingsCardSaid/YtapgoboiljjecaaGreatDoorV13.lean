/- Numbers and paths are read. -/
import Derived.Test.YtapgoboiljjecaaGreatDoorV4
set_option linter.unusedSimpArgs false
set_option linter.unusedVariables false
namespace Go.Proofs.YtapgoboiljjecaaGreatDoor
open Go Go.Am
set_option linter.unusedSimpArgs false
set_option maxHeartbeats 2000000 in
set_option maxRecDepth 10000 in
theorem t96 (b:List Int) (hb:isB b) (hlen:b.length ≤ 1099511627776):CFun Tryz.prog 96 [encBs b] [] (.tup [.sl 1 ((rdWords b).map enc32) .sh,.bool (okWords b)]) []:=by
 refine CFun.intro (tr:=[13]) (fz:=[]) (n:=30) (rs:=[.tmp 2,.tmp 3]) Tryz.func96 rfl (by kernel_rfl) rfl rfl mixed (by kernel_rfl) (by simp) (by simp) ?_
 obtain ⟨m,hm⟩:∃ m,b.length = m:=⟨_,rfl⟩
 obtain ⟨q,hq⟩:∃ q,m / 4 = q:=⟨_,rfl⟩
 have hr:rdWords b = wordsAt b 0 q:=by unfold rdWords; rw [hm,hq]
 have ho:okWords b = (decide (0 < m) && decide (m % 4 = 0)):=by unfold okWords; rw [hm]
 rw [hr,ho]
 have hg:=fun (j:Nat) (h:4 * j + 4 ≤ m)=>t38 b hb (by omega) (4 * j) 4 (by omega) (by omega)
 have hn:=fun at_=>numAt_in hb at_ 4
 have hs:=fun j=>wordsAt_succ b 0 j
 simp
 refine LoopK.intro (tr:=[13]) mixed (by kernel_rfl) (fun j:Nat=>[(0,encBs b),(4,.sl 1 ((wordsAt b 0 j).map enc32) .own),(5,.int .i64 ((4 * j:Nat):Int))]) (fun _=>[]) (fun j=>4 * j ≤ m) (fun j=>m - 4 * j) 0 ?_ ?_ ?_
 · simp
 · simp [wordsAt]
 · rintro j h1
   have w1:IntKind.i64.wrap (4 * (j:Int) + 4) = 4 * j + 4:=wrap_in (by omega)
   by_cases hj:4 * j + 4 ≤ m
   · have hj':4 * (j:Int) + 4 ≤ m:=by omega
     have h38:=hg j hj
     have hx:=hn (4 * j)
     have hsj:=hs j
     rw [show 0 + j * 4 = 4 * j by omega] at hsj
     have hl:=wordsAt_len b 0 j
     generalize numAt b (4 * j) 4 = x at *
     have w2:IntKind.u32.wrap x = x:=u32_in hx
     generalize wordsAt b 0 j = W at *
     have s1:W.length + 1 ≤ 140737488355328:=by omega
     have s2:(W.length + 1) * 4 ≤ 140737488355328:=by omega
     simp [w1,hm,hj']
     refine ⟨_,_,.inl (by simpa using h38),by simp,?_⟩
     simp [w2,s1,s2,w1]
     exact ⟨j + 1,by omega,by omega,by simp [hsj],by omega⟩
   · have hj':¬ 4 * (j:Int) + 4 ≤ m:=by omega
     have e:j = q:=by omega
     subst e
     by_cases h0:0 < m
     · have h0':(0:Int) < m:=by omega
       have hmm:(m:Int).tmod 4 = ((m % 4:Nat):Int):=by rw [Int.tmod_eq_emod_of_nonneg (by omega)]; omega
       by_cases h4:m % 4 = 0
       · simp [w1,hm,hj',h0,h0',hmm,h4]
       · simp [w1,hm,hj',h0,h0',hmm,h4]
         omega
     · have h0':¬ (0:Int) < m:=by omega
       simp [w1,hm,hj',h0,h0']
set_option maxHeartbeats 4000000 in
set_option maxRecDepth 10000 in
theorem t95 (b:List Int) (hb:isB b) (hlen:b.length ≤ 65535):CFun Tryz.prog 95 [encBs b,.int .i64 4] [] (.tup [.sl 2 ((rdPath b []).1.map encSeg) .sh,.bool (rdPath b []).2]) []:=by
 refine CFun.intro (tr:=[48,1000048,60]) (fz:=[]) (n:=71) (rs:=[.tmp 4,.tmp 5]) Tryz.func95 rfl (by kernel_rfl) rfl rfl mixed (by kernel_rfl) (by simp) (by simp) ?_
 simp
 refine LoopK.intro (tr:=[48,1000048,60]) mixed (by kernel_rfl) (fun s:List Int × List Seg=>[(0,encBs s.1),(1,.int .i64 4),(6,.sl 2 (s.2.map encSeg) .own)]) (fun _=>[])
   (fun s=>isB s.1 ∧ s.1.length + s.2.length ≤ 65535 ∧ rdPath s.1 s.2 = rdPath b []) (fun s=>s.1.length) (b,[]) ?_ ?_ ?_
 · simp [hb,hlen]
 · simp
 · rintro ⟨c,p⟩ ⟨hc,hl,hr⟩
   simp only at hc hl hr
   rw [← hr]
   clear hr
   rw [rdPath]
   obtain ⟨m,hm⟩:∃ m,c.length = m:=⟨_,rfl⟩
   rw [hm] at hl
   rw [hm]
   by_cases h0:m = 0
   · subst h0
     simp [hm]
   have h0':(0:Int) < m:=by omega
   rw [if_neg h0]
   by_cases h2:m < 2
   · have h2':(m:Int) < 2:=by omega
     rw [if_pos (.inl h2)]
     simp [hm,h0',h2,h2',h0]
     omega
   have h2':¬ (m:Int) < 2:=by omega
   have g0:=get_getD (b:=c) (i:=0) (by omega)
   have g1:=get_getD (b:=c) (i:=1) (by omega)
   have i0:=getD_in hc 0
   have i1:=getD_in hc 1
   obtain ⟨l0,ga0⟩:=List.getElem?_eq_some_iff.1 g0
   obtain ⟨l1,ga1⟩:=List.getElem?_eq_some_iff.1 g1
   have d0:0 < m:=by omega
   have d1:1 < m:=by omega
   have d1':(1:Int) < m:=by omega
   obtain ⟨k,hk⟩:∃ k:Nat,c.getD 1 0 = k:=⟨(c.getD 1 0).toNat,by omega⟩
   rw [hk] at g1 ga1 i1
   rw [hk]
   generalize c.getD 0 0 = x0 at *
   have wk:IntKind.i64.wrap (k:Int) = k:=wrap_in (by omega)
   have wk2:IntKind.i64.wrap ((k:Int) * 4) = k * 4:=wrap_in (by omega)
   have wk3:IntKind.i64.wrap (2 + (k:Int) * 4) = 2 + k * 4:=wrap_in (by omega)
   have w0:IntKind.i64.wrap x0 = x0:=wrap_in (by omega)
   by_cases hk0:k = 0
   · rw [if_pos (.inr (.inl (by omega)))]
     simp [hm,h0',h2,h2',h0,g1,ga1,d0,d1,d1',hk0]
   by_cases hk1:(m:Int) < 2 + (k:Int) * 4
   · rw [if_pos (.inr (.inr hk1))]
     simp [hm,h0',h2,h2',h0,g1,ga1,d0,d1,d1',hk0,wk,wk2,wk3,hk1]
   rw [if_neg (by omega)]
   simp [hm,h0',h2,h2',h0,g1,ga1,d0,d1,d1',hk0,wk,wk2,wk3,hk1,g0,ga0,w0]
   have hkm:2 + k * 4 ≤ m:=by omega
   have hg:=fun (j:Nat) (h:j < k) H=>(t38 c hc (by omega) (2 + j * 4) 4 (by omega) (by omega)).up' H rfl rfl
   have hw:=fun j=>wordsAt_succ c 2 j
   have hwl:=fun j=>wordsAt_len c 2 j
   have hdr:=isB_drop hc (2 + k * 4)
   have hdm:(c.map enc8).drop (2 + k * 4) = (c.drop (2 + k * 4)).map enc8:=(List.map_drop).symm
   refine LoopK.intro (tr:=[48,1000048,60]) mixed (by kernel_rfl) (fun j:Nat=>[(0,encBs c),(1,.int .i64 4),(6,.sl 2 (p.map encSeg) .own),(7,.ptr 0 0),(8,.int .i64 k),(43,.int .i64 k),(44,.int .i64 j)]) (fun j=>[[.int .i64 x0,.sl 1 ((wordsAt c 2 j).map encI) .own]])
     (fun j=>j ≤ k) (fun j=>k - j) 0 ?_ ?_ ?_
   · simp
   · simp [wordsAt]
   · rintro j j1
     by_cases hj:j < k
     · have h38:=hg j hj
       have hsj:=hw j
       have hlj:=hwl j
       generalize numAt c (2 + j * 4) 4 = x at *
       generalize wordsAt c 2 j = W at *
       have w1:IntKind.i64.wrap ((j:Int) + 1) = j + 1:=wrap_in (by omega)
       have w2:IntKind.i64.wrap ((j:Int) * 4) = j * 4:=wrap_in (by omega)
       have w3:IntKind.i64.wrap (2 + (j:Int) * 4) = 2 + j * 4:=wrap_in (by omega)
       have s1:W.length + 1 ≤ 140737488355328:=by omega
       have s2:(W.length + 1) * 8 ≤ 140737488355328:=by omega
       simp [hj,w2,w3]
       refine ⟨_,_,.inl (by simpa using h38 _),by simp,?_⟩
       simp [s1,s2,w1]
       exact ⟨j + 1,by omega,by omega,by simp,by simp [hsj]⟩
     · have e:j = k:=by omega
       subst e
       have s1:p.length + 1 ≤ 140737488355328:=by omega
       have s2:(p.length + 1) * 32 ≤ 140737488355328:=by omega
       have hkm':2 + (j:Int) * 4 ≤ m:=by omega
       have htk:(c.map enc8).take m = c.map enc8:=List.take_of_length_le (by simp [hm])
       have t0:(2 + (j:Int) * 4).toNat = 2 + j * 4:=by omega
       have t1:(0:Int) ≤ 2 + (j:Int) * 4:=by omega
       generalize hW:wordsAt c 2 j = W at *
       simp [wk2,wk3,s1,s2,hm,hkm,hkm',htk,t0,t1]
       exact ⟨_,_,⟨hdr,by simp; omega,rfl⟩,by simp; omega,hdm,by simp⟩
end Go.Proofs.YtapgoboiljjecaaGreatDoor

/- One attribute is read. Printed by gen40.py. -/
namespace Go.Proofs.YtapgoboiljjecaaGreatDoor
open Go Go.Am
set_option linter.unusedSimpArgs false
@[simp] def cellsAO (a:Att):List AVal:=[.int .i64 a.Origin,.sl 2 (a.Path.map encSeg) .sh,.int .u32 a.Next,.bool a.HasMED,.int .i64 a.MED,.bool a.HasPref,.int .i64 a.Pref,.bool a.Atomic,.bool a.HasAggr,.int .i64 a.AggrAS,.int .u32 a.AggrAddr,
  .sl 1 (a.Comm.map enc32) .sh,.bool a.HasOrig,.int .u32 a.Origr,.sl 1 (a.Clus.map enc32) .sh,.sl 2 (a.Unk.map encTlv) .own]
def rd40 (k:Int) (a:Att) (v:List Int):Prop:=CFun Tryz.prog 40 [.ptr 0 0,.int .i64 k,encBs v,.int .i64 4] [cellsAO a] (.bool (rdA a k v).2) [cellsAO (rdA a k v).1]
set_option maxHeartbeats 4000000 in
set_option maxRecDepth 10000 in
theorem t40_1 (a:Att) (v:List Int) (hv:isB v) (hlen:v.length ≤ 65535):rd40 1 a v:=by
 unfold rd40
 refine CFun.intro (tr:=[24,1000024]) (fz:=[]) (n:=144) (rs:=[.tmp 8]) Tryz.func40 rfl (by kernel_rfl) rfl rfl mixed (by kernel_rfl) (by simp) (by simp) ?_
 obtain ⟨m,hm⟩:∃ m,v.length = m:=⟨_,rfl⟩
 have hw:=w4_in hv
 have w2:=u32_in hw
 have w0:IntKind.u32.wrap 0 = 0:=rfl
 have e:rdA a 1 v = (if m ≠ 1 then (a,false) else ({ a with Origin:=v.getD 0 0 },true)):=by simp [rdA,hm]
 rw [e]
 by_cases h1:m = 1
 · have g0:=get_getD (b:=v) (i:=0) (by omega)
   obtain ⟨l0,ga0⟩:=List.getElem?_eq_some_iff.1 g0
   have i0:=getD_in hv 0
   rw [if_neg (by omega)]
   generalize v.getD 0 0 = x0 at *
   have w1:IntKind.i64.wrap x0 = x0:=wrap_in (by omega)
   have h4:¬ m = 4:=by omega
   have h4':¬ (m:Int) = 4:=by omega
   have h1':(m:Int) = 1:=by omega
   simp [hm,h4,h4',h1,h1',g0,ga0,w1]
 rw [if_pos (by omega)]
 have h1':¬ (m:Int) = 1:=by omega
 by_cases h4:m = 4
 · have h38:=fun H=>(t38 v hv (by omega) 0 4 (by omega) (by omega)).up' H rfl rfl
   have e4:w4 v = numAt v 0 4:=by unfold w4; rw [if_pos (by omega)]
   rw [← e4] at h38
   generalize w4 v = x at *
   have h4':(m:Int) = 4:=by omega
   simp [hm,h4,h4']
   refine ⟨_,_,.inl (by simpa using h38 _),by simp,?_⟩
   simp [hm,h1,h1',h4,h4']
 · have h4':¬ (m:Int) = 4:=by omega
   have e4:w4 v = 0:=by unfold w4; rw [if_neg (by omega)]
   rw [e4] at *
   simp [hm,h1,h1',h4,h4']
set_option maxHeartbeats 4000000 in
set_option maxRecDepth 10000 in
theorem t40_2 (a:Att) (v:List Int) (hv:isB v) (hlen:v.length ≤ 65535):rd40 2 a v:=by
 unfold rd40
 refine CFun.intro (tr:=[24,1000024]) (fz:=[]) (n:=144) (rs:=[.tmp 8]) Tryz.func40 rfl (by kernel_rfl) rfl rfl mixed (by kernel_rfl) (by simp) (by simp) ?_
 obtain ⟨m,hm⟩:∃ m,v.length = m:=⟨_,rfl⟩
 have hw:=w4_in hv
 have w2:=u32_in hw
 have w0:IntKind.u32.wrap 0 = 0:=rfl
 have e:rdA a 2 v = ({ a with Path:=(rdPath v []).1 },(rdPath v []).2):=by simp [rdA]
 rw [e]
 have h95:=fun H=>(t95 v hv hlen).up' H rfl rfl
 generalize rdPath v [] = q at *
 by_cases h4:m = 4
 · have h38:=fun H=>(t38 v hv (by omega) 0 4 (by omega) (by omega)).up' H rfl rfl
   have e4:w4 v = numAt v 0 4:=by unfold w4; rw [if_pos (by omega)]
   rw [← e4] at h38
   generalize w4 v = x at *
   have h4':(m:Int) = 4:=by omega
   simp [hm,h4,h4']
   refine ⟨_,_,.inl (by simpa using h38 _),by simp,?_⟩
   simp [hm,h4,h4']
   refine ⟨_,_,.inl (by simpa using h95 _),by simp,?_⟩
   simp
 · have h4':¬ (m:Int) = 4:=by omega
   have e4:w4 v = 0:=by unfold w4; rw [if_neg (by omega)]
   rw [e4] at *
   simp [hm,h4,h4']
   refine ⟨_,_,.inl (by simpa using h95 _),by simp,?_⟩
   simp
set_option maxHeartbeats 4000000 in
set_option maxRecDepth 10000 in
theorem t40_3 (a:Att) (v:List Int) (hv:isB v) (hlen:v.length ≤ 65535):rd40 3 a v:=by
 unfold rd40
 refine CFun.intro (tr:=[24,1000024]) (fz:=[]) (n:=144) (rs:=[.tmp 8]) Tryz.func40 rfl (by kernel_rfl) rfl rfl mixed (by kernel_rfl) (by simp) (by simp) ?_
 obtain ⟨m,hm⟩:∃ m,v.length = m:=⟨_,rfl⟩
 have hw:=w4_in hv
 have w2:=u32_in hw
 have w0:IntKind.u32.wrap 0 = 0:=rfl
 have e:rdA a 3 v = ({ a with Next:=w4 v },decide (m = 4)):=by simp [rdA,hm]
 rw [e]
 by_cases h4:m = 4
 · have h38:=fun H=>(t38 v hv (by omega) 0 4 (by omega) (by omega)).up' H rfl rfl
   have e4:w4 v = numAt v 0 4:=by unfold w4; rw [if_pos (by omega)]
   rw [← e4] at h38
   generalize w4 v = x at *
   have h4':(m:Int) = 4:=by omega
   simp [hm,h4,h4']
   refine ⟨_,_,.inl (by simpa using h38 _),by simp,?_⟩
   simp [hm,h4,h4',w2]
 · have h4':¬ (m:Int) = 4:=by omega
   have e4:w4 v = 0:=by unfold w4; rw [if_neg (by omega)]
   rw [e4] at *
   simp [hm,h4,h4',w0]
set_option maxHeartbeats 4000000 in
set_option maxRecDepth 10000 in
theorem t40_4 (a:Att) (v:List Int) (hv:isB v) (hlen:v.length ≤ 65535):rd40 4 a v:=by
 unfold rd40
 refine CFun.intro (tr:=[24,1000024]) (fz:=[]) (n:=144) (rs:=[.tmp 8]) Tryz.func40 rfl (by kernel_rfl) rfl rfl mixed (by kernel_rfl) (by simp) (by simp) ?_
 obtain ⟨m,hm⟩:∃ m,v.length = m:=⟨_,rfl⟩
 have hw:=w4_in hv
 have w2:=u32_in hw
 have w0:IntKind.u32.wrap 0 = 0:=rfl
 have e:rdA a 4 v = ({ a with HasMED:=true,MED:=w4 v },decide (m = 4)):=by simp [rdA,hm]
 rw [e]
 by_cases h4:m = 4
 · have h38:=fun H=>(t38 v hv (by omega) 0 4 (by omega) (by omega)).up' H rfl rfl
   have e4:w4 v = numAt v 0 4:=by unfold w4; rw [if_pos (by omega)]
   rw [← e4] at h38
   generalize w4 v = x at *
   have h4':(m:Int) = 4:=by omega
   simp [hm,h4,h4']
   refine ⟨_,_,.inl (by simpa using h38 _),by simp,?_⟩
   simp [hm,h4,h4',w2]
 · have h4':¬ (m:Int) = 4:=by omega
   have e4:w4 v = 0:=by unfold w4; rw [if_neg (by omega)]
   rw [e4] at *
   simp [hm,h4,h4',w0]
set_option maxHeartbeats 4000000 in
set_option maxRecDepth 10000 in
theorem t40_5 (a:Att) (v:List Int) (hv:isB v) (hlen:v.length ≤ 65535):rd40 5 a v:=by
 unfold rd40
 refine CFun.intro (tr:=[24,1000024]) (fz:=[]) (n:=144) (rs:=[.tmp 8]) Tryz.func40 rfl (by kernel_rfl) rfl rfl mixed (by kernel_rfl) (by simp) (by simp) ?_
 obtain ⟨m,hm⟩:∃ m,v.length = m:=⟨_,rfl⟩
 have hw:=w4_in hv
 have w2:=u32_in hw
 have w0:IntKind.u32.wrap 0 = 0:=rfl
 have e:rdA a 5 v = ({ a with HasPref:=true,Pref:=w4 v },decide (m = 4)):=by simp [rdA,hm]
 rw [e]
 by_cases h4:m = 4
 · have h38:=fun H=>(t38 v hv (by omega) 0 4 (by omega) (by omega)).up' H rfl rfl
   have e4:w4 v = numAt v 0 4:=by unfold w4; rw [if_pos (by omega)]
   rw [← e4] at h38
   generalize w4 v = x at *
   have h4':(m:Int) = 4:=by omega
   simp [hm,h4,h4']
   refine ⟨_,_,.inl (by simpa using h38 _),by simp,?_⟩
   simp [hm,h4,h4',w2]
 · have h4':¬ (m:Int) = 4:=by omega
   have e4:w4 v = 0:=by unfold w4; rw [if_neg (by omega)]
   rw [e4] at *
   simp [hm,h4,h4',w0]
set_option maxHeartbeats 4000000 in
set_option maxRecDepth 10000 in
theorem t40_9 (a:Att) (v:List Int) (hv:isB v) (hlen:v.length ≤ 65535):rd40 9 a v:=by
 unfold rd40
 refine CFun.intro (tr:=[24,1000024]) (fz:=[]) (n:=144) (rs:=[.tmp 8]) Tryz.func40 rfl (by kernel_rfl) rfl rfl mixed (by kernel_rfl) (by simp) (by simp) ?_
 obtain ⟨m,hm⟩:∃ m,v.length = m:=⟨_,rfl⟩
 have hw:=w4_in hv
 have w2:=u32_in hw
 have w0:IntKind.u32.wrap 0 = 0:=rfl
 have e:rdA a 9 v = ({ a with HasOrig:=true,Origr:=w4 v },decide (m = 4)):=by simp [rdA,hm]
 rw [e]
 by_cases h4:m = 4
 · have h38:=fun H=>(t38 v hv (by omega) 0 4 (by omega) (by omega)).up' H rfl rfl
   have e4:w4 v = numAt v 0 4:=by unfold w4; rw [if_pos (by omega)]
   rw [← e4] at h38
   generalize w4 v = x at *
   have h4':(m:Int) = 4:=by omega
   simp [hm,h4,h4']
   refine ⟨_,_,.inl (by simpa using h38 _),by simp,?_⟩
   simp [hm,h4,h4',w2]
 · have h4':¬ (m:Int) = 4:=by omega
   have e4:w4 v = 0:=by unfold w4; rw [if_neg (by omega)]
   rw [e4] at *
   simp [hm,h4,h4',w0]
set_option maxHeartbeats 4000000 in
set_option maxRecDepth 10000 in
theorem t40_6 (a:Att) (v:List Int) (hv:isB v) (hlen:v.length ≤ 65535):rd40 6 a v:=by
 unfold rd40
 refine CFun.intro (tr:=[24,1000024]) (fz:=[]) (n:=144) (rs:=[.tmp 8]) Tryz.func40 rfl (by kernel_rfl) rfl rfl mixed (by kernel_rfl) (by simp) (by simp) ?_
 obtain ⟨m,hm⟩:∃ m,v.length = m:=⟨_,rfl⟩
 have hw:=w4_in hv
 have w2:=u32_in hw
 have w0:IntKind.u32.wrap 0 = 0:=rfl
 have e:rdA a 6 v = ({ a with Atomic:=true },decide (m = 0)):=by simp [rdA,hm]
 rw [e]
 by_cases h4:m = 4
 · have h38:=fun H=>(t38 v hv (by omega) 0 4 (by omega) (by omega)).up' H rfl rfl
   have e4:w4 v = numAt v 0 4:=by unfold w4; rw [if_pos (by omega)]
   rw [← e4] at h38
   generalize w4 v = x at *
   have h4':(m:Int) = 4:=by omega
   simp [hm,h4,h4']
   refine ⟨_,_,.inl (by simpa using h38 _),by simp,?_⟩
   simp [hm,h4,h4']
 · have h4':¬ (m:Int) = 4:=by omega
   have e4:w4 v = 0:=by unfold w4; rw [if_neg (by omega)]
   rw [e4] at *
   by_cases h0:m = 0
   · have h0':(m:Int) = 0:=by omega
     simp [hm,h4,h4',h0,h0']
   · have h0':¬ (m:Int) = 0:=by omega
     simp [hm,h4,h4',h0,h0']
set_option maxHeartbeats 4000000 in
set_option maxRecDepth 10000 in
theorem t40_7 (a:Att) (v:List Int) (hv:isB v) (hlen:v.length ≤ 65535):rd40 7 a v:=by
 unfold rd40
 refine CFun.intro (tr:=[24,1000024]) (fz:=[]) (n:=144) (rs:=[.tmp 8]) Tryz.func40 rfl (by kernel_rfl) rfl rfl mixed (by kernel_rfl) (by simp) (by simp) ?_
 obtain ⟨m,hm⟩:∃ m,v.length = m:=⟨_,rfl⟩
 have hw:=w4_in hv
 have w2:=u32_in hw
 have w0:IntKind.u32.wrap 0 = 0:=rfl
 have e:rdA a 7 v = (if m ≠ 8 then (a,false) else ({ a with HasAggr:=true,AggrAS:=numAt v 0 4,AggrAddr:=numAt v 4 4 },true)):=by simp [rdA,hm]
 rw [e]
 have w8:IntKind.i64.wrap 8 = 8:=rfl
 by_cases h1:m = 8
 · have h38:=fun H=>(t38 v hv (by omega) 0 4 (by omega) (by omega)).up' H rfl rfl
   have h38b:=fun H=>(t38 v hv (by omega) 4 4 (by omega) (by omega)).up' H rfl rfl
   have w1:IntKind.u32.wrap (numAt v 4 4) = numAt v 4 4:=u32_in (numAt_in hv 4 4)
   rw [if_neg (by omega)]
   generalize numAt v 0 4 = x at *
   generalize numAt v 4 4 = y at *
   have h4:¬ m = 4:=by omega
   have h4':¬ (m:Int) = 4:=by omega
   have h1':(m:Int) = 8:=by omega
   simp [hm,h4,h4',h1,h1',w8]
   refine ⟨_,_,.inl (by simpa using h38 _),by simp,?_⟩
   simp
   refine ⟨_,_,.inl (by simpa using h38b _),by simp,?_⟩
   simp [w1]
 rw [if_pos (by omega)]
 have h1':¬ (m:Int) = 8:=by omega
 by_cases h4:m = 4
 · have h38:=fun H=>(t38 v hv (by omega) 0 4 (by omega) (by omega)).up' H rfl rfl
   have e4:w4 v = numAt v 0 4:=by unfold w4; rw [if_pos (by omega)]
   rw [← e4] at h38
   generalize w4 v = x at *
   have h4':(m:Int) = 4:=by omega
   simp [hm,h4,h4']
   refine ⟨_,_,.inl (by simpa using h38 _),by simp,?_⟩
   simp [hm,h1,h1',h4,h4',w8]
 · have h4':¬ (m:Int) = 4:=by omega
   have e4:w4 v = 0:=by unfold w4; rw [if_neg (by omega)]
   rw [e4] at *
   simp [hm,h1,h1',h4,h4',w8]
set_option maxHeartbeats 4000000 in
set_option maxRecDepth 10000 in
theorem t40_8 (a:Att) (v:List Int) (hv:isB v) (hlen:v.length ≤ 65535):rd40 8 a v:=by
 unfold rd40
 refine CFun.intro (tr:=[24,1000024]) (fz:=[]) (n:=144) (rs:=[.tmp 8]) Tryz.func40 rfl (by kernel_rfl) rfl rfl mixed (by kernel_rfl) (by simp) (by simp) ?_
 obtain ⟨m,hm⟩:∃ m,v.length = m:=⟨_,rfl⟩
 have hw:=w4_in hv
 have w2:=u32_in hw
 have w0:IntKind.u32.wrap 0 = 0:=rfl
 have e:rdA a 8 v = ({ a with Comm:=rdWords v },okWords v):=by simp [rdA]
 rw [e]
 have h96:=fun H=>(t96 v hv (by omega)).up' H rfl rfl
 generalize rdWords v = q at *
 generalize okWords v = o at *
 by_cases h4:m = 4
 · have h38:=fun H=>(t38 v hv (by omega) 0 4 (by omega) (by omega)).up' H rfl rfl
   have e4:w4 v = numAt v 0 4:=by unfold w4; rw [if_pos (by omega)]
   rw [← e4] at h38
   generalize w4 v = x at *
   have h4':(m:Int) = 4:=by omega
   simp [hm,h4,h4']
   refine ⟨_,_,.inl (by simpa using h38 _),by simp,?_⟩
   simp [hm,h4,h4']
   refine ⟨_,_,.inl (by simpa using h96 _),by simp,?_⟩
   simp
 · have h4':¬ (m:Int) = 4:=by omega
   have e4:w4 v = 0:=by unfold w4; rw [if_neg (by omega)]
   rw [e4] at *
   simp [hm,h4,h4']
   refine ⟨_,_,.inl (by simpa using h96 _),by simp,?_⟩
   simp
set_option maxHeartbeats 4000000 in
set_option maxRecDepth 10000 in
theorem t40_10 (a:Att) (v:List Int) (hv:isB v) (hlen:v.length ≤ 65535):rd40 10 a v:=by
 unfold rd40
 refine CFun.intro (tr:=[24,1000024]) (fz:=[]) (n:=144) (rs:=[.tmp 8]) Tryz.func40 rfl (by kernel_rfl) rfl rfl mixed (by kernel_rfl) (by simp) (by simp) ?_
 obtain ⟨m,hm⟩:∃ m,v.length = m:=⟨_,rfl⟩
 have hw:=w4_in hv
 have w2:=u32_in hw
 have w0:IntKind.u32.wrap 0 = 0:=rfl
 have e:rdA a 10 v = ({ a with Clus:=rdWords v },okWords v):=by simp [rdA]
 rw [e]
 have h96:=fun H=>(t96 v hv (by omega)).up' H rfl rfl
 generalize rdWords v = q at *
 generalize okWords v = o at *
 by_cases h4:m = 4
 · have h38:=fun H=>(t38 v hv (by omega) 0 4 (by omega) (by omega)).up' H rfl rfl
   have e4:w4 v = numAt v 0 4:=by unfold w4; rw [if_pos (by omega)]
   rw [← e4] at h38
   generalize w4 v = x at *
   have h4':(m:Int) = 4:=by omega
   simp [hm,h4,h4']
   refine ⟨_,_,.inl (by simpa using h38 _),by simp,?_⟩
   simp [hm,h4,h4']
   refine ⟨_,_,.inl (by simpa using h96 _),by simp,?_⟩
   simp
 · have h4':¬ (m:Int) = 4:=by omega
   have e4:w4 v = 0:=by unfold w4; rw [if_neg (by omega)]
   rw [e4] at *
   simp [hm,h4,h4']
   refine ⟨_,_,.inl (by simpa using h96 _),by simp,?_⟩
   simp
set_option maxHeartbeats 4000000 in
set_option maxRecDepth 10000 in
theorem t40_n (k:Int) (k1:k ≠ 1) (k2:k ≠ 2) (k3:k ≠ 3) (k4:k ≠ 4) (k5:k ≠ 5) (k6:k ≠ 6) (k7:k ≠ 7) (k8:k ≠ 8) (k9:k ≠ 9) (k10:k ≠ 10) (a:Att) (v:List Int) (hv:isB v) (hlen:v.length ≤ 65535) (hu:a.Unk.length ≤ 1000000):rd40 k a v:=by
 unfold rd40
 refine CFun.intro (tr:=[24,1000024]) (fz:=[]) (n:=144) (rs:=[.tmp 8]) Tryz.func40 rfl (by kernel_rfl) rfl rfl mixed (by kernel_rfl) (by simp) (by simp) ?_
 obtain ⟨m,hm⟩:∃ m,v.length = m:=⟨_,rfl⟩
 have hw:=w4_in hv
 have w2:=u32_in hw
 have w0:IntKind.u32.wrap 0 = 0:=rfl
 have e:rdA a k v = ({ a with Unk:=a.Unk ++ [⟨k,v⟩] },true):=by simp [rdA,k1,k2,k3,k4,k5,k6,k7,k8,k9,k10]
 rw [e]
 have s1:m ≤ 140737488355328:=by omega
 have s2:a.Unk.length + 1 ≤ 140737488355328:=by omega
 have s3:(a.Unk.length + 1) * 32 ≤ 140737488355328:=by omega
 by_cases h4:m = 4
 · have h38:=fun H=>(t38 v hv (by omega) 0 4 (by omega) (by omega)).up' H rfl rfl
   have e4:w4 v = numAt v 0 4:=by unfold w4; rw [if_pos (by omega)]
   rw [← e4] at h38
   generalize w4 v = x at *
   have h4':(m:Int) = 4:=by omega
   simp [hm,h4,h4']
   refine ⟨_,_,.inl (by simpa using h38 _),by simp,?_⟩
   simp [hm,h4,h4',k1,k2,k3,k4,k5,k6,k7,k8,k9,k10,s1,s2,s3]
 · have h4':¬ (m:Int) = 4:=by omega
   have e4:w4 v = 0:=by unfold w4; rw [if_neg (by omega)]
   rw [e4] at *
   simp [hm,h4,h4',k1,k2,k3,k4,k5,k6,k7,k8,k9,k10,s1,s2,s3]
theorem t40 (k:Int) (a:Att) (v:List Int) (hv:isB v) (hlen:v.length ≤ 65535) (hu:a.Unk.length ≤ 1000000):rd40 k a v:=by
 by_cases k1:k = 1
 · subst k1; exact t40_1 a v hv hlen
 by_cases k2:k = 2
 · subst k2; exact t40_2 a v hv hlen
 by_cases k3:k = 3
 · subst k3; exact t40_3 a v hv hlen
 by_cases k4:k = 4
 · subst k4; exact t40_4 a v hv hlen
 by_cases k5:k = 5
 · subst k5; exact t40_5 a v hv hlen
 by_cases k6:k = 6
 · subst k6; exact t40_6 a v hv hlen
 by_cases k7:k = 7
 · subst k7; exact t40_7 a v hv hlen
 by_cases k8:k = 8
 · subst k8; exact t40_8 a v hv hlen
 by_cases k9:k = 9
 · subst k9; exact t40_9 a v hv hlen
 by_cases k10:k = 10
 · subst k10; exact t40_10 a v hv hlen
 exact t40_n k k1 k2 k3 k4 k5 k6 k7 k8 k9 k10 a v hv hlen hu
end Go.Proofs.YtapgoboiljjecaaGreatDoor

/- The checks of paths. -/
namespace Go.Proofs.YtapgoboiljjecaaGreatDoor
open Go Go.Am
set_option linter.unusedSimpArgs false
def FE (err:Nat → Int):Nat → Int
 | 0=>0
 | n + 1=>if FE err n = 0 then err n else FE err n
theorem FE_zero {err:Nat → Int}:∀ {n:Nat},(∀ j,j < n → err j = 0) → FE err n = 0
 | 0,_=>rfl
 | n + 1,h=>by
   rw [FE,if_pos (FE_zero fun j hj=>h j (by omega))]
   exact h n (by omega)
theorem FE_inv {err:Nat → Int}:∀ {n:Nat},FE err n = 0 → ∀ j,j < n → err j = 0
 | 0,_,j,hj=>by omega
 | n + 1,h,j,hj=>by
   rw [FE] at h
   by_cases e:FE err n = 0
   · rw [if_pos e] at h
     by_cases e2:j = n
     · rw [e2]; exact h
     · exact FE_inv e j (by omega)
   · rw [if_neg e] at h; exact (e h).elim
theorem FE_at {err:Nat → Int} {i:Nat} (h:∀ j,j < i → err j = 0) (he:err i ≠ 0):∀ {n:Nat},i < n → FE err n = err i
 | 0,hn=>by omega
 | n + 1,hn=>by
   rw [FE]
   by_cases e:i = n
   · subst e
     rw [if_pos (FE_zero h)]
   · rw [FE_at h he (n:=n) (by omega),if_neg he]
theorem inv_succ {err:Nat → Int} {i:Nat} (h:∀ j,j < i → err j = 0) (he:err i = 0):∀ j,j < i + 1 → err j = 0:=fun j hj=>by
 by_cases e:j = i
 · rw [e]; exact he
 · exact h j (by omega)
set_option maxHeartbeats 1000000 in
set_option maxRecDepth 10000 in
theorem t125 (x:Int) (l:List Int) (n:Nat) (hn:l.length = n) (hlen:n < 1099511627776):CFun Tryz.prog 125 [.int .i64 x,.sl 1 (l.map encI) .sh] [] (.bool (memL l x)) []:=by
 refine CFun.intro (tr:=[]) (fz:=[]) (n:=17) (rs:=[.tmp 4]) Tryz.func125 rfl (by kernel_rfl) rfl rfl mixed (by kernel_rfl) (by simp) (by simp) ?_
 simp [hn]
 refine LoopK.intro (tr:=[]) mixed (by kernel_rfl) (fun i:Nat=>[(0,.int .i64 x),(7,.sl 1 (l.map encI) .sh),(8,.int .i64 n),(9,.int .i64 i)]) (fun _=>[]) (fun i=>i ≤ n ∧ (x ∈ l ↔ x ∈ l.drop i)) (fun i=>n - i) 0 ?_ ?_ ?_
 · simp
 · simp
 · rintro i ⟨h1,h2⟩
   by_cases hi:i < n
   · obtain ⟨y,hy,hd⟩:=get_drop (l:=l) (i:=i) (by omega)
     rw [hd] at h2
     have w1:IntKind.i64.wrap ((i:Int) + 1) = i + 1:=wrap_in (by omega)
     clear hd hn
     by_cases hxy:y = x
     · subst hxy
       simp at h2
       simp [hi,hy,memL,h2]
     · have hxy':¬ x = y:=fun e=>hxy e.symm
       simp [hxy'] at h2
       simp [hi,hy,hxy,w1]
       exact ⟨i + 1,⟨by omega,h2⟩,by omega,by simp⟩
   · have e:l.drop i = []:=List.drop_of_length_le (by omega)
     rw [e] at h2
     simp at h2
     simp [hi,memL,h2]
theorem among (x:Int) (l:List Int) (hlen:l.length < 1000) (H:List (List AVal)):CFun Tryz.prog 125 [.int .i64 x,.sl 1 (l.map encI) .full] H (.bool (memL l x)) H :=
 ((t125 x l l.length rfl (by omega)).wk [.int .i64 x,.sl 1 (l.map encI) .full] (by simp) ⟨rfl,whole,trivial⟩).up' H rfl rfl
def confI (k:Int):Bool:=memL [3,4] k
theorem t124 (k:Int):CFun Tryz.prog 124 [.int .i64 k] [] (.bool (confI k)) []:=by
 refine CFun.intro (tr:=[]) (fz:=[]) (n:=6) (rs:=[.tmp 2]) Tryz.func124 rfl (by kernel_rfl) rfl rfl mixed (by kernel_rfl) (by simp) (by simp) ?_
 have h:=among k [3,4] (by simp) []
 simp
 refine ⟨_,_,.inl (by simpa using h),by simp,?_⟩
 simp [confI]
def segE1 (s:Seg) (j:Nat):Int:=if s.AS.getD j 0 < 1 ∨ 4294967295 < s.AS.getD j 0 then 5 else 0
def segE2 (s:Seg) (j:Nat):Int:=if 0 < j ∧ memL [1,4] s.Kind = true ∧ s.AS.getD j 0 ≤ s.AS.getD (j - 1) 0 then 16 else 0
def segE (s:Seg):Int :=
 if memL [1,2,3,4] s.Kind = false then 15 else if s.AS.length = 0 then 1 else if 255 < s.AS.length then 4 else
 if FE (segE1 s) s.AS.length ≠ 0 then FE (segE1 s) s.AS.length else FE (segE2 s) s.AS.length
set_option maxHeartbeats 4000000 in
set_option maxRecDepth 10000 in
theorem t123 (s:Seg):CFun Tryz.prog 123 [encSeg s] [] (.int .i64 (segE s)) []:=by
 refine CFun.intro (tr:=[]) (fz:=[]) (n:=65) (rs:=[.tmp 2]) Tryz.func123 rfl (by kernel_rfl) rfl rfl mixed (by kernel_rfl) (by simp) (by simp) ?_
 have h4:=among s.Kind [1,2,3,4] (by simp)
 have h2:=among s.Kind [1,4] (by simp)
 obtain ⟨n,hn⟩:∃ n,s.AS.length = n:=⟨_,rfl⟩
 unfold segE
 rw [hn]
 simp
 refine ⟨_,_,.inl (by simpa using h4 _),by simp,?_⟩
 by_cases hk:memL [1,2,3,4] s.Kind = false
 · simp [hk]
 have hk':memL [1,2,3,4] s.Kind = true:=by simpa using hk
 by_cases h0:n = 0
 · have h0':(n:Int) = 0:=by omega
   simp [hk',hn,h0,h0']
 have h0':¬ (n:Int) = 0:=by omega
 by_cases h255:255 < n
 · have h255':(255:Int) < n:=by omega
   simp [hk',hn,h0,h0',h255,h255']
 have h255':¬ (255:Int) < n:=by omega
 simp [hk',hn,h0,h0',h255,h255']
 refine LoopK.intro (tr:=[]) mixed (by kernel_rfl) (fun i:Nat=>[(1,.ptr 0 0),(23,.sl 1 (s.AS.map encI) .sh),(24,.int .i64 n),(25,.int .i64 i)]) (fun _=>[[.int .i64 s.Kind,.sl 1 (s.AS.map encI) .sh]]) (fun i=>i ≤ n ∧ ∀ j,j < i → segE1 s j = 0) (fun i=>n - i) 0 ?_ ?_ ?_
 · simp
 · simp
 · rintro i ⟨i1,i2⟩
   by_cases hi:i < n
   · have g:=get_getD (b:=s.AS) (i:=i) (by omega)
     have w1:IntKind.i64.wrap ((i:Int) + 1) = i + 1:=wrap_in (by omega)
     have hx:segE1 s i = if s.AS.getD i 0 < 1 ∨ 4294967295 < s.AS.getD i 0 then 5 else 0:=rfl
     generalize s.AS.getD i 0 = x at *
     by_cases h1:x < 1
     · rw [if_pos (.inl h1)] at hx
       have hf:=FE_at i2 (by omega) hi
       simp [hi,g,h1,hf,hx]
     by_cases h5:4294967295 < x
     · rw [if_pos (.inr h5)] at hx
       have hf:=FE_at i2 (by omega) hi
       simp [hi,g,h1,h5,hf,hx]
     rw [if_neg (by omega)] at hx
     have i3:=inv_succ i2 hx
     simp [hi,g,h1,h5,w1]
     exact ⟨i + 1,⟨by omega,i3⟩,by omega,by simp⟩
   · have e:i = n:=by omega
     subst e
     have hf:=FE_zero i2
     simp [hi,hn,hf]
     refine LoopK.intro (tr:=[]) mixed (by kernel_rfl) (fun j:Nat=>[(1,.ptr 0 0),(37,.sl 1 (s.AS.map encI) .sh),(38,.int .i64 i),(39,.int .i64 j)]) (fun _=>[[.int .i64 s.Kind,.sl 1 (s.AS.map encI) .sh]]) (fun j=>j ≤ i ∧ ∀ k,k < j → segE2 s k = 0) (fun j=>i - j) 0 ?_ ?_ ?_
     · simp
     · simp
     · rintro j ⟨j1,j2⟩
       by_cases hj:j < i
       · have g:=get_getD (b:=s.AS) (i:=j) (by omega)
         have w1:IntKind.i64.wrap ((j:Int) + 1) = j + 1:=wrap_in (by omega)
         have hx:segE2 s j = if 0 < j ∧ memL [1,4] s.Kind = true ∧ s.AS.getD j 0 ≤ s.AS.getD (j - 1) 0 then 16 else 0:=rfl
         by_cases h1:j = 0
         · rw [if_neg (by omega)] at hx
           have i3:=inv_succ j2 hx
           subst h1
           simp [hj,w1,show IntKind.i64.wrap 1 = 1 from rfl]
           exact ⟨1,⟨by omega,i3⟩,by omega,by simp⟩
         have h1':(0:Int) < j:=by omega
         have h1n:0 < j:=by omega
         obtain ⟨k,rfl⟩:∃ k,j = k + 1:=⟨j - 1,by omega⟩
         have gp:=get_getD (b:=s.AS) (i:=k) (by omega)
         have w3:IntKind.i64.wrap (((k + 1:Nat):Int) - 1) = k:=by rw [wrap_in (by omega)]; omega
         simp only [Nat.add_sub_cancel] at hx
         generalize s.AS.getD (k + 1) 0 = x at *
         generalize s.AS.getD k 0 = y at *
         have hk1:(k:Int) < i:=by omega
         have hk2:k < i:=by omega
         have hj':(k:Int) + 1 < i:=by omega
         have w4:IntKind.i64.wrap (k:Int) = k:=wrap_in (by omega)
         have w5:IntKind.i64.wrap ((k:Int) + 1 + 1) = k + 1 + 1:=wrap_in (by omega)
         have k0:(0:Int) < k + 1:=by omega
         have k00:(0:Int) ≤ k + 1:=by omega
         simp [hj,hj',k0]
         refine ⟨_,_,.inl (by simpa using h2 _),by simp,?_⟩
         by_cases hm:memL [1,4] s.Kind = true
         · by_cases hxy:x ≤ y
           · rw [if_pos ⟨by omega,hm,hxy⟩] at hx
             have hf2:=FE_at j2 (by omega) hj
             simp [hm,hj',hj,k00,w4,g,gp,hk1,hk2,hxy,hf,hf2,hx]
           · rw [if_neg (by intro h; exact hxy h.2.2)] at hx
             have i3:=inv_succ j2 hx
             simp [hm,hj',hj,k00,w4,w5,g,gp,hk1,hk2,hxy]
             exact ⟨k + 1 + 1,⟨by omega,i3⟩,by omega,by simp⟩
         · rw [if_neg (by intro h; exact hm h.2.1)] at hx
           have i3:=inv_succ j2 hx
           have hm':memL [1,4] s.Kind = false:=by simpa using hm
           simp [hm',hj',hj,w4,w5]
           exact ⟨k + 1 + 1,⟨by omega,i3⟩,by omega,by simp⟩
       · have e:j = i:=by omega
         subst e
         have hf2:=FE_zero j2
         simp [hf,hf2]
end Go.Proofs.YtapgoboiljjecaaGreatDoor

/- The checks of paths, communities, clusters and unknown attributes. -/
namespace Go.Proofs.YtapgoboiljjecaaGreatDoor
open Go Go.Am
set_option linter.unusedSimpArgs false
def segAt (p:List Seg) (i:Nat):Seg:=p.getD i ⟨0,[]⟩
def plainP (p:List Seg) (i:Nat):Bool:=(p.take i).any fun s=>!confI s.Kind
def pathE1 (p:List Seg) (i:Nat):Int :=
 if segE (segAt p i) ≠ 0 then segE (segAt p i) else if confI (segAt p i).Kind = true ∧ plainP p i = true then 1 else
 if 0 < i ∧ memL [2,3] (segAt p i).Kind = true ∧ (segAt p (i - 1)).Kind = (segAt p i).Kind ∧ (segAt p (i - 1)).AS.length < 255 then 1 else 0
def pathE (p:List Seg):Int:=if 64 < p.length then 4 else FE (pathE1 p) p.length
theorem seg_get {p:List Seg} {i:Nat} (h:i < p.length):p[i]? = some (segAt p i):=by
 simp [segAt,List.getD_eq_getElem?_getD,h]
theorem plain_succ {p:List Seg} {i:Nat} (h:i < p.length):plainP p (i + 1) = (plainP p i || !confI (segAt p i).Kind):=by
 unfold plainP
 rw [List.take_add_one,seg_get h]
 simp
set_option maxHeartbeats 4000000 in
set_option maxRecDepth 10000 in
theorem t99 (p:List Seg) (hA:∀ s ∈ p,s.AS.length ≤ 65535):CFun Tryz.prog 99 [.sl 2 (p.map encSeg) .sh] [] (.int .i64 (pathE p)) []:=by
 refine CFun.intro (tr:=[]) (fz:=[]) (n:=65) (rs:=[.tmp 2]) Tryz.func99 rfl (by kernel_rfl) rfl rfl mixed (by kernel_rfl) (by simp) (by simp) ?_
 obtain ⟨n,hn⟩:∃ n,p.length = n:=⟨_,rfl⟩
 unfold pathE
 rw [hn]
 by_cases h64:64 < n
 · have h64':(64:Int) < n:=by omega
   simp [hn,h64,h64']
 have h64':¬ (64:Int) < n:=by omega
 simp [hn,h64,h64']
 refine LoopK.intro (tr:=[]) mixed (by kernel_rfl) (fun i:Nat=>[(0,.sl 2 (p.map encSeg) .sh),(3,.bool (plainP p i)),(10,.sl 2 (p.map encSeg) .sh),(11,.int .i64 n),(12,.int .i64 i)]) (fun _=>[]) (fun i=>i ≤ n ∧ ∀ j,j < i → pathE1 p j = 0) (fun i=>n - i) 0 ?_ ?_ ?_
 · simp
 · simp [plainP]
 · rintro i ⟨i1,i2⟩
   by_cases hi:i < n
   · have g:=seg_get (p:=p) (i:=i) (by omega)
     have w1:IntKind.i64.wrap ((i:Int) + 1) = i + 1:=wrap_in (by omega)
     have hps:=plain_succ (p:=p) (i:=i) (by omega)
     have hx:pathE1 p i = if segE (segAt p i) ≠ 0 then segE (segAt p i) else if confI (segAt p i).Kind = true ∧ plainP p i = true then 1 else
       if 0 < i ∧ memL [2,3] (segAt p i).Kind = true ∧ (segAt p (i - 1)).Kind = (segAt p i).Kind ∧ (segAt p (i - 1)).AS.length < 255 then 1 else 0:=rfl
     have hprev:0 < i → ∃ q,p[i - 1]? = some q ∧ segAt p (i - 1) = q ∧ q.AS.length ≤ 65535:=fun h=>⟨_,seg_get (by omega),rfl,hA _ (List.mem_of_getElem? (seg_get (by omega)))⟩
     generalize hs:segAt p i = s at *
     have h123:=fun H=>(t123 s).up' H rfl rfl
     have h124:=fun H=>(t124 s.Kind).up' H rfl rfl
     have h125:=among s.Kind [2,3] (by simp)
     generalize segE s = e at *
     generalize plainP p i = pl at *
     obtain ⟨K,A⟩:=s
     simp only at *
     simp [hi,g]
     refine ⟨_,_,.inl (by simpa using h123 _),by simp,?_⟩
     by_cases he:e = 0
     case neg =>
       rw [if_pos he] at hx
       have hf:=FE_at i2 (by omega) hi
       simp [he,hf,hx]
     rw [if_neg (by omega)] at hx
     simp [he]
     refine ⟨_,_,.inl (by simpa using h124 _),by simp,?_⟩
     by_cases hc:confI K = true ∧ pl = true
     · rw [if_pos hc] at hx
       have hf:=FE_at i2 (by omega) hi
       simp [hc.1,hc.2,hf,hx]
     rw [if_neg hc] at hx
     have hc':(confI K && pl) = false:=by
       cases h1:confI K <;> cases h2:pl <;> simp [h1,h2] at hc ⊢
     have tail:∀ (hx0:pathE1 p i = 0),∃ j,(j ≤ n ∧ ∀ k,k < j → pathE1 p k = 0) ∧ n - j < n - i ∧ plainP p j = (pl || !confI K) ∧ j = i + 1:=fun hx0 =>
       ⟨i + 1,⟨by omega,inv_succ i2 hx0⟩,by omega,hps,rfl⟩
     have hcases:(confI K = true ∧ pl = false) ∨ (confI K = false ∧ pl = true) ∨ (confI K = false ∧ pl = false):=by
       cases h1:confI K <;> cases h2:pl <;> simp [h1,h2] at hc ⊢
     have c0:i = 0 ∨ 0 < i:=by omega
     rcases hcases with ⟨hK,rfl⟩ | ⟨hK,rfl⟩ | ⟨hK,rfl⟩
     · rcases c0 with h0 | h0
       · rw [if_neg (by omega)] at hx
         obtain ⟨j,j1,j2,j3,je⟩:=tail hx
         subst h0
         simp [hK,w1,show IntKind.i64.wrap 1 = 1 from rfl]
         refine ⟨_,_,.inl (by simpa [hK] using h124 _),by simp,?_⟩
         simp [hK,w1]
         exact ⟨j,j1,j2,by simp [j3,hK],by simp [je,show IntKind.i64.wrap 1 = 1 from rfl]⟩
       · obtain ⟨q,hq,hq2,hq3⟩:=hprev h0
         rw [hq2] at hx
         obtain ⟨k,rfl⟩:∃ k,i = k + 1:=⟨i - 1,by omega⟩
         rw [Nat.add_sub_cancel] at hq
         have k0:(0:Int) < k + 1:=by omega
         have kn:(k:Int) + 1 < n:=by omega
         have kn1:(k:Int) < n:=by omega
         have kn2:k < n:=by omega
         have w4:IntKind.i64.wrap (k:Int) = k:=wrap_in (by omega)
         have w5:IntKind.i64.wrap ((k:Int) + 1 + 1) = k + 1 + 1:=wrap_in (by omega)
         obtain ⟨qK,qA⟩:=q
         simp only at hx hq3
         obtain ⟨_,gq⟩:=List.getElem?_eq_some_iff.1 hq
         by_cases hm:memL [2,3] K = true
         case neg =>
           have hm':memL [2,3] K = false:=by simpa using hm
           rw [if_neg (by intro h; exact hm h.2.1)] at hx
           obtain ⟨j,j1,j2,j3,je⟩:=tail hx
           simp [hK,k0]
           refine ⟨_,_,.inl (by simpa using h125 _),by simp,?_⟩
           simp [hK,w1,hm',w5]
           refine ⟨_,_,.inl (by simpa [hK] using h124 _),by simp,?_⟩
           simp [hK,w1]
           simp only [je] at j1 j2 j3
           exact ⟨k + 1 + 1,j1,by omega,by simp [j3,hK],by simp [w5]⟩
         by_cases hk:qK = K
         case neg =>
           rw [if_neg (by intro h; exact hk h.2.2.1)] at hx
           obtain ⟨j,j1,j2,j3,je⟩:=tail hx
           simp [hK,k0]
           refine ⟨_,_,.inl (by simpa using h125 _),by simp,?_⟩
           simp [hK,w1,hm,hk,hq,gq,hn,w4,w5,kn1,kn2]
           refine ⟨_,_,.inl (by simpa [hK] using h124 _),by simp,?_⟩
           simp [hK,w1]
           simp only [je] at j1 j2 j3
           exact ⟨k + 1 + 1,j1,by omega,by simp [j3,hK],by simp [w5]⟩
         by_cases hl:qA.length < 255
         · have hl':(qA.length:Int) < 255:=by omega
           rw [if_pos ⟨h0,hm,hk,hl⟩] at hx
           have hf:=FE_at i2 (by omega) hi
           simp [hK,k0]
           refine ⟨_,_,.inl (by simpa using h125 _),by simp,?_⟩
           simp [hm,hk,hq,gq,hn,w4,w5,kn1,kn2,hl,hl',hf,hx]
         · have hl':¬ (qA.length:Int) < 255:=by omega
           rw [if_neg (by intro h; exact hl h.2.2.2)] at hx
           obtain ⟨j,j1,j2,j3,je⟩:=tail hx
           simp [hK,k0]
           refine ⟨_,_,.inl (by simpa using h125 _),by simp,?_⟩
           simp [hK,w1,hm,hk,hq,gq,hn,w4,w5,kn1,kn2,hl,hl']
           refine ⟨_,_,.inl (by simpa [hK] using h124 _),by simp,?_⟩
           simp [hK,w1]
           simp only [je] at j1 j2 j3
           exact ⟨k + 1 + 1,j1,by omega,by simp [j3,hK],by simp [w5]⟩
     · rcases c0 with h0 | h0
       · rw [if_neg (by omega)] at hx
         obtain ⟨j,j1,j2,j3,je⟩:=tail hx
         subst h0
         simp [hK,w1,show IntKind.i64.wrap 1 = 1 from rfl]
         exact ⟨j,j1,j2,by simp [j3,hK],by simp [je,show IntKind.i64.wrap 1 = 1 from rfl]⟩
       · obtain ⟨q,hq,hq2,hq3⟩:=hprev h0
         rw [hq2] at hx
         obtain ⟨k,rfl⟩:∃ k,i = k + 1:=⟨i - 1,by omega⟩
         rw [Nat.add_sub_cancel] at hq
         have k0:(0:Int) < k + 1:=by omega
         have kn:(k:Int) + 1 < n:=by omega
         have kn1:(k:Int) < n:=by omega
         have kn2:k < n:=by omega
         have w4:IntKind.i64.wrap (k:Int) = k:=wrap_in (by omega)
         have w5:IntKind.i64.wrap ((k:Int) + 1 + 1) = k + 1 + 1:=wrap_in (by omega)
         obtain ⟨qK,qA⟩:=q
         simp only at hx hq3
         obtain ⟨_,gq⟩:=List.getElem?_eq_some_iff.1 hq
         by_cases hm:memL [2,3] K = true
         case neg =>
           have hm':memL [2,3] K = false:=by simpa using hm
           rw [if_neg (by intro h; exact hm h.2.1)] at hx
           obtain ⟨j,j1,j2,j3,je⟩:=tail hx
           simp [hK,k0]
           refine ⟨_,_,.inl (by simpa using h125 _),by simp,?_⟩
           simp [hK,w1,hm',w5]
           simp only [je] at j1 j2 j3
           exact ⟨k + 1 + 1,j1,by omega,by simp [j3,hK],by simp [w5]⟩
         by_cases hk:qK = K
         case neg =>
           rw [if_neg (by intro h; exact hk h.2.2.1)] at hx
           obtain ⟨j,j1,j2,j3,je⟩:=tail hx
           simp [hK,k0]
           refine ⟨_,_,.inl (by simpa using h125 _),by simp,?_⟩
           simp [hK,w1,hm,hk,hq,gq,hn,w4,w5,kn1,kn2]
           simp only [je] at j1 j2 j3
           exact ⟨k + 1 + 1,j1,by omega,by simp [j3,hK],by simp [w5]⟩
         by_cases hl:qA.length < 255
         · have hl':(qA.length:Int) < 255:=by omega
           rw [if_pos ⟨h0,hm,hk,hl⟩] at hx
           have hf:=FE_at i2 (by omega) hi
           simp [hK,k0]
           refine ⟨_,_,.inl (by simpa using h125 _),by simp,?_⟩
           simp [hm,hk,hq,gq,hn,w4,w5,kn1,kn2,hl,hl',hf,hx]
         · have hl':¬ (qA.length:Int) < 255:=by omega
           rw [if_neg (by intro h; exact hl h.2.2.2)] at hx
           obtain ⟨j,j1,j2,j3,je⟩:=tail hx
           simp [hK,k0]
           refine ⟨_,_,.inl (by simpa using h125 _),by simp,?_⟩
           simp [hK,w1,hm,hk,hq,gq,hn,w4,w5,kn1,kn2,hl,hl']
           simp only [je] at j1 j2 j3
           exact ⟨k + 1 + 1,j1,by omega,by simp [j3,hK],by simp [w5]⟩
     · rcases c0 with h0 | h0
       · rw [if_neg (by omega)] at hx
         obtain ⟨j,j1,j2,j3,je⟩:=tail hx
         subst h0
         simp [hK,w1,show IntKind.i64.wrap 1 = 1 from rfl]
         refine ⟨_,_,.inl (by simpa [hK] using h124 _),by simp,?_⟩
         simp [hK,w1]
         exact ⟨j,j1,j2,by simp [j3,hK],by simp [je,show IntKind.i64.wrap 1 = 1 from rfl]⟩
       · obtain ⟨q,hq,hq2,hq3⟩:=hprev h0
         rw [hq2] at hx
         obtain ⟨k,rfl⟩:∃ k,i = k + 1:=⟨i - 1,by omega⟩
         rw [Nat.add_sub_cancel] at hq
         have k0:(0:Int) < k + 1:=by omega
         have kn:(k:Int) + 1 < n:=by omega
         have kn1:(k:Int) < n:=by omega
         have kn2:k < n:=by omega
         have w4:IntKind.i64.wrap (k:Int) = k:=wrap_in (by omega)
         have w5:IntKind.i64.wrap ((k:Int) + 1 + 1) = k + 1 + 1:=wrap_in (by omega)
         obtain ⟨qK,qA⟩:=q
         simp only at hx hq3
         obtain ⟨_,gq⟩:=List.getElem?_eq_some_iff.1 hq
         by_cases hm:memL [2,3] K = true
         case neg =>
           have hm':memL [2,3] K = false:=by simpa using hm
           rw [if_neg (by intro h; exact hm h.2.1)] at hx
           obtain ⟨j,j1,j2,j3,je⟩:=tail hx
           simp [hK,k0]
           refine ⟨_,_,.inl (by simpa using h125 _),by simp,?_⟩
           simp [hK,w1,hm',w5]
           refine ⟨_,_,.inl (by simpa [hK] using h124 _),by simp,?_⟩
           simp [hK,w1]
           simp only [je] at j1 j2 j3
           exact ⟨k + 1 + 1,j1,by omega,by simp [j3,hK],by simp [w5]⟩
         by_cases hk:qK = K
         case neg =>
           rw [if_neg (by intro h; exact hk h.2.2.1)] at hx
           obtain ⟨j,j1,j2,j3,je⟩:=tail hx
           simp [hK,k0]
           refine ⟨_,_,.inl (by simpa using h125 _),by simp,?_⟩
           simp [hK,w1,hm,hk,hq,gq,hn,w4,w5,kn1,kn2]
           refine ⟨_,_,.inl (by simpa [hK] using h124 _),by simp,?_⟩
           simp [hK,w1]
           simp only [je] at j1 j2 j3
           exact ⟨k + 1 + 1,j1,by omega,by simp [j3,hK],by simp [w5]⟩
         by_cases hl:qA.length < 255
         · have hl':(qA.length:Int) < 255:=by omega
           rw [if_pos ⟨h0,hm,hk,hl⟩] at hx
           have hf:=FE_at i2 (by omega) hi
           simp [hK,k0]
           refine ⟨_,_,.inl (by simpa using h125 _),by simp,?_⟩
           simp [hm,hk,hq,gq,hn,w4,w5,kn1,kn2,hl,hl',hf,hx]
         · have hl':¬ (qA.length:Int) < 255:=by omega
           rw [if_neg (by intro h; exact hl h.2.2.2)] at hx
           obtain ⟨j,j1,j2,j3,je⟩:=tail hx
           simp [hK,k0]
           refine ⟨_,_,.inl (by simpa using h125 _),by simp,?_⟩
           simp [hK,w1,hm,hk,hq,gq,hn,w4,w5,kn1,kn2,hl,hl']
           refine ⟨_,_,.inl (by simpa [hK] using h124 _),by simp,?_⟩
           simp [hK,w1]
           simp only [je] at j1 j2 j3
           exact ⟨k + 1 + 1,j1,by omega,by simp [j3,hK],by simp [w5]⟩
   · have e:i = n:=by omega
     subst e
     have hf:=FE_zero i2
     simp [hi,hf]
end Go.Proofs.YtapgoboiljjecaaGreatDoor

/- The checks of communities, clusters and unknown attributes. -/
namespace Go.Proofs.YtapgoboiljjecaaGreatDoor
open Go Go.Am
set_option linter.unusedSimpArgs false
def commE1 (l:List Int) (i:Nat):Int:=if 0 < i ∧ l.getD i 0 ≤ l.getD (i - 1) 0 then 16 else 0
def commE (l:List Int):Int:=if 255 < l.length then 4 else FE (commE1 l) l.length
set_option maxHeartbeats 2000000 in
set_option maxRecDepth 10000 in
theorem t101 (l:List Int):CFun Tryz.prog 101 [.sl 1 (l.map enc32) .sh] [] (.int .i64 (commE l)) []:=by
 refine CFun.intro (tr:=[]) (fz:=[]) (n:=27) (rs:=[.tmp 2]) Tryz.func101 rfl (by kernel_rfl) rfl rfl mixed (by kernel_rfl) (by simp) (by simp) ?_
 obtain ⟨n,hn⟩:∃ n,l.length = n:=⟨_,rfl⟩
 unfold commE
 rw [hn]
 by_cases h64:255 < n
 · have h64':(255:Int) < n:=by omega
   simp [hn,h64,h64']
 have h64':¬ (255:Int) < n:=by omega
 simp [hn,h64,h64']
 refine LoopK.intro (tr:=[]) mixed (by kernel_rfl) (fun i:Nat=>[(0,.sl 1 (l.map enc32) .sh),(8,.int .i64 n),(9,.int .i64 i)]) (fun _=>[]) (fun i=>i ≤ n ∧ ∀ j,j < i → commE1 l j = 0) (fun i=>n - i) 0 ?_ ?_ ?_
 · simp
 · simp
 · rintro i ⟨i1,i2⟩
   by_cases hi:i < n
   · have hx:commE1 l i = if 0 < i ∧ l.getD i 0 ≤ l.getD (i - 1) 0 then 16 else 0:=rfl
     by_cases h0:i = 0
     · rw [if_neg (by omega)] at hx
       have i3:=inv_succ i2 hx
       subst h0
       simp [hi,show IntKind.i64.wrap 1 = 1 from rfl]
       exact ⟨1,⟨by omega,i3⟩,by omega,by simp⟩
     obtain ⟨k,rfl⟩:∃ k,i = k + 1:=⟨i - 1,by omega⟩
     have g:=get_getD (b:=l) (i:=k + 1) (by omega)
     have gp:=get_getD (b:=l) (i:=k) (by omega)
     obtain ⟨_,ga⟩:=List.getElem?_eq_some_iff.1 g
     obtain ⟨_,gpa⟩:=List.getElem?_eq_some_iff.1 gp
     simp only [Nat.add_sub_cancel] at hx
     generalize l.getD (k + 1) 0 = x at *
     generalize l.getD k 0 = y at *
     have k0:(0:Int) < k + 1:=by omega
     have k00:(0:Int) ≤ k + 1:=by omega
     have kn:(k:Int) + 1 < n:=by omega
     have kn1:(k:Int) < n:=by omega
     have kn2:k < n:=by omega
     have w4:IntKind.i64.wrap (k:Int) = k:=wrap_in (by omega)
     have w5:IntKind.i64.wrap ((k:Int) + 1 + 1) = k + 1 + 1:=wrap_in (by omega)
     by_cases hxy:x ≤ y
     · rw [if_pos ⟨by omega,hxy⟩] at hx
       have hf:=FE_at i2 (by omega) hi
       simp [hi,hn,g,gp,ga,gpa,k0,k00,kn,kn1,kn2,w4,w5,hxy,hf,hx]
     · rw [if_neg (by intro h; exact hxy h.2)] at hx
       have i3:=inv_succ i2 hx
       simp [hi,hn,g,gp,ga,gpa,k0,k00,kn,kn1,kn2,w4,w5,hxy]
       exact ⟨k + 1 + 1,⟨by omega,i3⟩,by omega,by simp⟩
   · have e:i = n:=by omega
     subst e
     have hf:=FE_zero i2
     simp [hi,hf]
def clusE1 (l:List Int) (i:Nat):Int:=if l.getD i 0 = 0 then 1 else 0
def clusE (l:List Int):Int:=if 64 < l.length then 4 else FE (clusE1 l) l.length
set_option maxHeartbeats 2000000 in
set_option maxRecDepth 10000 in
theorem t102 (l:List Int):CFun Tryz.prog 102 [.sl 1 (l.map enc32) .sh] [] (.int .i64 (clusE l)) []:=by
 refine CFun.intro (tr:=[]) (fz:=[]) (n:=17) (rs:=[.tmp 2]) Tryz.func102 rfl (by kernel_rfl) rfl rfl mixed (by kernel_rfl) (by simp) (by simp) ?_
 obtain ⟨n,hn⟩:∃ n,l.length = n:=⟨_,rfl⟩
 unfold clusE
 rw [hn]
 by_cases h64:64 < n
 · have h64':(64:Int) < n:=by omega
   simp [hn,h64,h64']
 have h64':¬ (64:Int) < n:=by omega
 simp [hn,h64,h64']
 refine LoopK.intro (tr:=[]) mixed (by kernel_rfl) (fun i:Nat=>[(8,.sl 1 (l.map enc32) .sh),(9,.int .i64 n),(10,.int .i64 i)]) (fun _=>[]) (fun i=>i ≤ n ∧ ∀ j,j < i → clusE1 l j = 0) (fun i=>n - i) 0 ?_ ?_ ?_
 · simp
 · simp
 · rintro i ⟨i1,i2⟩
   by_cases hi:i < n
   · have hx:clusE1 l i = if l.getD i 0 = 0 then 1 else 0:=rfl
     have g:=get_getD (b:=l) (i:=i) (by omega)
     obtain ⟨_,ga⟩:=List.getElem?_eq_some_iff.1 g
     generalize l.getD i 0 = x at *
     have w1:IntKind.i64.wrap ((i:Int) + 1) = i + 1:=wrap_in (by omega)
     by_cases h0:x = 0
     · rw [if_pos h0] at hx
       have hf:=FE_at i2 (by omega) hi
       simp [hi,g,ga,h0,hf,hx]
     · rw [if_neg h0] at hx
       have i3:=inv_succ i2 hx
       simp [hi,g,ga,h0,w1]
       exact ⟨i + 1,⟨by omega,i3⟩,by omega,by simp⟩
   · have e:i = n:=by omega
     subst e
     have hf:=FE_zero i2
     simp [hi,hf]
def tlvAt (l:List Tlv) (i:Nat):Tlv:=l.getD i ⟨0,[]⟩
theorem tlv_get {p:List Tlv} {i:Nat} (h:i < p.length):p[i]? = some (tlvAt p i):=by
 simp [tlvAt,List.getD_eq_getElem?_getD,h]
def unkE1 (l:List Tlv) (i:Nat):Int :=
 if (tlvAt l i).Kind ≤ 10 ∨ 255 < (tlvAt l i).Kind then 15 else if 0 < i ∧ (tlvAt l i).Kind ≤ (tlvAt l (i - 1)).Kind then 16 else if 255 < (tlvAt l i).Val.length then 4 else 0
def unkE (l:List Tlv):Int:=if 64 < l.length then 4 else FE (unkE1 l) l.length
theorem unkE_kinds {l:List Tlv} (h:unkE l = 0):∀ t ∈ l,¬ t.Kind ≤ 10:=by
 unfold unkE at h
 by_cases h64:64 < l.length
 · rw [if_pos h64] at h; simp at h
 rw [if_neg h64] at h
 intro t ht hk
 obtain ⟨i,hi,e⟩:=List.mem_iff_getElem.1 ht
 have:=FE_inv h i hi
 have e2:tlvAt l i = t:=by
   have:=tlv_get (p:=l) (i:=i) hi
   rw [List.getElem?_eq_getElem hi,e] at this
   exact (Option.some.inj this).symm
 unfold unkE1 at this
 rw [e2,if_pos (.inl hk)] at this
 simp at this
set_option maxHeartbeats 4000000 in
set_option maxRecDepth 10000 in
theorem t103 (l:List Tlv):CFun Tryz.prog 103 [.sl 2 (l.map encTlv) .sh] [] (.int .i64 (unkE l)) []:=by
 refine CFun.intro (tr:=[]) (fz:=[]) (n:=44) (rs:=[.tmp 2]) Tryz.func103 rfl (by kernel_rfl) rfl rfl mixed (by kernel_rfl) (by simp) (by simp) ?_
 obtain ⟨n,hn⟩:∃ n,l.length = n:=⟨_,rfl⟩
 unfold unkE
 rw [hn]
 by_cases h64:64 < n
 · have h64':(64:Int) < n:=by omega
   simp [hn,h64,h64']
 have h64':¬ (64:Int) < n:=by omega
 simp [hn,h64,h64']
 refine LoopK.intro (tr:=[]) mixed (by kernel_rfl) (fun i:Nat=>[(0,.sl 2 (l.map encTlv) .sh),(8,.sl 2 (l.map encTlv) .sh),(9,.int .i64 n),(10,.int .i64 i)]) (fun _=>[]) (fun i=>i ≤ n ∧ ∀ j,j < i → unkE1 l j = 0) (fun i=>n - i) 0 ?_ ?_ ?_
 · simp
 · simp
 · rintro i ⟨i1,i2⟩
   by_cases hi:i < n
   · have hx:unkE1 l i = if (tlvAt l i).Kind ≤ 10 ∨ 255 < (tlvAt l i).Kind then 15 else if 0 < i ∧ (tlvAt l i).Kind ≤ (tlvAt l (i - 1)).Kind then 16 else if 255 < (tlvAt l i).Val.length then 4 else 0:=rfl
     have g:=tlv_get (p:=l) (i:=i) (by omega)
     obtain ⟨_,ga⟩:=List.getElem?_eq_some_iff.1 g
     have hprev:0 < i → ∃ q,l[i - 1]? = some q ∧ tlvAt l (i - 1) = q:=fun h=>⟨_,tlv_get (by omega),rfl⟩
     generalize tlvAt l i = t at *
     obtain ⟨K,V⟩:=t
     simp only at hx
     have w1:IntKind.i64.wrap ((i:Int) + 1) = i + 1:=wrap_in (by omega)
     by_cases h10:K ≤ 10
     · rw [if_pos (.inl h10)] at hx
       have hf:=FE_at i2 (by omega) hi
       simp [hi,g,ga,h10,hf,hx]
     by_cases h255:255 < K
     · rw [if_pos (.inr h255)] at hx
       have hf:=FE_at i2 (by omega) hi
       simp [hi,g,ga,h10,h255,hf,hx]
     rw [if_neg (by omega)] at hx
     by_cases h0:i = 0
     · rw [if_neg (by omega)] at hx
       subst h0
       by_cases hv:255 < V.length
       · have hv':(255:Int) < V.length:=by omega
         rw [if_pos hv] at hx
         have hf:=FE_at i2 (by omega) hi
         simp [hi,g,ga,h10,h255,hv,hv',hf,hx]
       · have hv':¬ (255:Int) < V.length:=by omega
         rw [if_neg hv] at hx
         have i3:=inv_succ i2 hx
         simp [hi,g,ga,h10,h255,hv,hv',show IntKind.i64.wrap 1 = 1 from rfl]
         exact ⟨1,⟨by omega,i3⟩,by omega,by simp⟩
     obtain ⟨k,rfl⟩:∃ k,i = k + 1:=⟨i - 1,by omega⟩
     obtain ⟨q,gp,hq⟩:=hprev (by omega)
     rw [hq] at hx
     rw [Nat.add_sub_cancel] at gp
     obtain ⟨_,gpa⟩:=List.getElem?_eq_some_iff.1 gp
     obtain ⟨qK,qV⟩:=q
     simp only at hx
     have k0:(0:Int) < k + 1:=by omega
     have k00:(0:Int) ≤ k + 1:=by omega
     have kn:(k:Int) + 1 < n:=by omega
     have kn1:(k:Int) < n:=by omega
     have kn2:k < n:=by omega
     have w4:IntKind.i64.wrap (k:Int) = k:=wrap_in (by omega)
     have w5:IntKind.i64.wrap ((k:Int) + 1 + 1) = k + 1 + 1:=wrap_in (by omega)
     by_cases hxy:K ≤ qK
     · rw [if_pos ⟨by omega,hxy⟩] at hx
       have hf:=FE_at i2 (by omega) hi
       simp [hi,hn,g,gp,ga,gpa,h10,h255,k0,k00,kn,kn1,kn2,w4,w5,hxy,hf,hx]
     rw [if_neg (by intro h; exact hxy h.2)] at hx
     by_cases hv:255 < V.length
     · have hv':(255:Int) < V.length:=by omega
       rw [if_pos hv] at hx
       have hf:=FE_at i2 (by omega) hi
       simp [hi,hn,g,gp,ga,gpa,h10,h255,k0,k00,kn,kn1,kn2,w4,w5,hxy,hv,hv',hf,hx]
     · have hv':¬ (255:Int) < V.length:=by omega
       rw [if_neg hv] at hx
       have i3:=inv_succ i2 hx
       simp [hi,hn,g,gp,ga,gpa,h10,h255,k0,k00,kn,kn1,kn2,w4,w5,hxy,hv,hv']
       exact ⟨k + 1 + 1,⟨by omega,i3⟩,by omega,by simp⟩
   · have e:i = n:=by omega
     subst e
     have hf:=FE_zero i2
     simp [hi,hf]
end Go.Proofs.YtapgoboiljjecaaGreatDoor

/- Attributes are checked. Printed by gen42.py. -/
namespace Go.Proofs.YtapgoboiljjecaaGreatDoor
open Go Go.Am
set_option linter.unusedSimpArgs false
def chkAt (a:Att):Int:=orL [whenI (decide (a.Origin < 0) || decide (2 < a.Origin)) 5,pathE a.Path,whenI (a.Next == 0) 1,optI a.HasMED a.MED 0,optI a.HasPref a.Pref 0,optI a.HasAggr a.AggrAS 1,
 whenI (!a.HasAggr && (a.AggrAddr != 0)) 1,commE a.Comm,whenI (a.HasOrig == (a.Origr == 0)) 1,clusE a.Clus,unkE a.Unk]
theorem orL_zero:∀ {l:List Int},orL l = 0 → ∀ x ∈ l,x = 0
 | [],_,x,hx=>by simp at hx
 | y :: l,h,x,hx=>by
   simp only [orL] at h
   by_cases e:y = 0
   · rw [if_pos e] at h
     rcases List.mem_cons.1 hx with rfl | hx
     · exact e
     · exact orL_zero h x hx
   · rw [if_neg e] at h; exact (e h).elim
theorem chkAt_unk {a:Att} (h:chkAt a = 0):¬ badU a:=by
 rintro ⟨t,ht,hk⟩
 exact unkE_kinds (orL_zero h (unkE a.Unk) (by simp)) t ht hk
set_option maxHeartbeats 8000000 in
set_option maxRecDepth 20000 in
theorem t42 (a:Att) (hA:∀ s ∈ a.Path,s.AS.length ≤ 65535):CFun Tryz.prog 42 [encAt a] [] (.int .i64 (chkAt a)) []:=by
 refine CFun.intro (tr:=[]) (fz:=[]) (n:=61) (rs:=[.tmp 2]) Tryz.func42 rfl (by kernel_rfl) rfl rfl mixed (by kernel_rfl) (by simp) (by simp) ?_
 have h98:=fun b e H=>(t98 b e).up' H rfl rfl
 have h99:=fun H=>(t99 a.Path hA).up' H rfl rfl
 have h100:=fun b n low H=>(t100 b n low).up' H rfl rfl
 have h101:=fun H=>(t101 a.Comm).up' H rfl rfl
 have h102:=fun H=>(t102 a.Clus).up' H rfl rfl
 have h103:=fun H=>(t103 a.Unk).up' H rfl rfl
 have h97:=fun (l:List Int) (hl:l.length = 11) H=>((t97 l 11 (by omega) (by omega)).wk [.sl 1 (l.map encI) .full] (by simp) ⟨whole,trivial⟩).up' H rfl rfl
 unfold chkAt
 obtain ⟨Origin,Path,Next,HasMED,MED,HasPref,Pref,Atomic,HasAggr,AggrAS,AggrAddr,Comm,HasOrig,Origr,Clus,Unk⟩:=a
 simp only at *
 generalize pathE Path = e99 at *
 generalize commE Comm = e101 at *
 generalize clusE Clus = e102 at *
 generalize unkE Unk = e103 at *
 have hag:HasAggr = true ∨ HasAggr = false:=by cases HasAggr <;> simp
 by_cases ho:Origin < 0
 · rcases hag with rfl | rfl
   · have hg:True:=trivial
     simp [ho,hg]
     refine ⟨_,_,.inl (by simpa using h98 _ _ _),by simp,?_⟩
     simp [ho,hg]
     refine ⟨_,_,.inl (by simpa using h99 _),by simp,?_⟩
     simp [ho,hg]
     refine ⟨_,_,.inl (by simpa using h98 _ _ _),by simp,?_⟩
     simp [ho,hg]
     refine ⟨_,_,.inl (by simpa using h100 _ _ _ _),by simp,?_⟩
     simp [ho,hg]
     refine ⟨_,_,.inl (by simpa using h100 _ _ _ _),by simp,?_⟩
     simp [ho,hg]
     refine ⟨_,_,.inl (by simpa using h100 _ _ _ _),by simp,?_⟩
     simp [ho,hg]
     refine ⟨_,_,.inl (by simpa using h98 _ _ _),by simp,?_⟩
     simp [ho,hg]
     refine ⟨_,_,.inl (by simpa using h101 _),by simp,?_⟩
     simp [ho,hg]
     refine ⟨_,_,.inl (by simpa using h98 _ _ _),by simp,?_⟩
     simp [ho,hg]
     refine ⟨_,_,.inl (by simpa using h102 _),by simp,?_⟩
     simp [ho,hg]
     refine ⟨_,_,.inl (by simpa using h103 _),by simp,?_⟩
     simp [ho,hg]
     refine ⟨_,_,.inl (by simpa using h97 [whenI true 5,e99,whenI (Next == 0) 1,optI HasMED MED 0,optI HasPref Pref 0,optI true AggrAS 1,whenI false 1,e101,whenI (HasOrig == (Origr == 0)) 1,e102,e103] rfl _),by simp,?_⟩
     simp [ho,hg]
   · have hg:True:=trivial
     simp [ho,hg]
     refine ⟨_,_,.inl (by simpa using h98 _ _ _),by simp,?_⟩
     simp [ho,hg]
     refine ⟨_,_,.inl (by simpa using h99 _),by simp,?_⟩
     simp [ho,hg]
     refine ⟨_,_,.inl (by simpa using h98 _ _ _),by simp,?_⟩
     simp [ho,hg]
     refine ⟨_,_,.inl (by simpa using h100 _ _ _ _),by simp,?_⟩
     simp [ho,hg]
     refine ⟨_,_,.inl (by simpa using h100 _ _ _ _),by simp,?_⟩
     simp [ho,hg]
     refine ⟨_,_,.inl (by simpa using h100 _ _ _ _),by simp,?_⟩
     simp [ho,hg]
     refine ⟨_,_,.inl (by simpa using h98 _ _ _),by simp,?_⟩
     simp [ho,hg]
     refine ⟨_,_,.inl (by simpa using h101 _),by simp,?_⟩
     simp [ho,hg]
     refine ⟨_,_,.inl (by simpa using h98 _ _ _),by simp,?_⟩
     simp [ho,hg]
     refine ⟨_,_,.inl (by simpa using h102 _),by simp,?_⟩
     simp [ho,hg]
     refine ⟨_,_,.inl (by simpa using h103 _),by simp,?_⟩
     simp [ho,hg]
     refine ⟨_,_,.inl (by simpa using h97 [whenI true 5,e99,whenI (Next == 0) 1,optI HasMED MED 0,optI HasPref Pref 0,optI false AggrAS 1,whenI (AggrAddr != 0) 1,e101,whenI (HasOrig == (Origr == 0)) 1,e102,e103] rfl _),by simp,?_⟩
     simp [ho,hg]
 · rcases hag with rfl | rfl
   · have hg:True:=trivial
     simp [ho,hg]
     refine ⟨_,_,.inl (by simpa using h98 _ _ _),by simp,?_⟩
     simp [ho,hg]
     refine ⟨_,_,.inl (by simpa using h99 _),by simp,?_⟩
     simp [ho,hg]
     refine ⟨_,_,.inl (by simpa using h98 _ _ _),by simp,?_⟩
     simp [ho,hg]
     refine ⟨_,_,.inl (by simpa using h100 _ _ _ _),by simp,?_⟩
     simp [ho,hg]
     refine ⟨_,_,.inl (by simpa using h100 _ _ _ _),by simp,?_⟩
     simp [ho,hg]
     refine ⟨_,_,.inl (by simpa using h100 _ _ _ _),by simp,?_⟩
     simp [ho,hg]
     refine ⟨_,_,.inl (by simpa using h98 _ _ _),by simp,?_⟩
     simp [ho,hg]
     refine ⟨_,_,.inl (by simpa using h101 _),by simp,?_⟩
     simp [ho,hg]
     refine ⟨_,_,.inl (by simpa using h98 _ _ _),by simp,?_⟩
     simp [ho,hg]
     refine ⟨_,_,.inl (by simpa using h102 _),by simp,?_⟩
     simp [ho,hg]
     refine ⟨_,_,.inl (by simpa using h103 _),by simp,?_⟩
     simp [ho,hg]
     refine ⟨_,_,.inl (by simpa using h97 [whenI (decide (2 < Origin)) 5,e99,whenI (Next == 0) 1,optI HasMED MED 0,optI HasPref Pref 0,optI true AggrAS 1,whenI false 1,e101,whenI (HasOrig == (Origr == 0)) 1,e102,e103] rfl _),by simp,?_⟩
     simp [ho,hg]
   · have hg:True:=trivial
     simp [ho,hg]
     refine ⟨_,_,.inl (by simpa using h98 _ _ _),by simp,?_⟩
     simp [ho,hg]
     refine ⟨_,_,.inl (by simpa using h99 _),by simp,?_⟩
     simp [ho,hg]
     refine ⟨_,_,.inl (by simpa using h98 _ _ _),by simp,?_⟩
     simp [ho,hg]
     refine ⟨_,_,.inl (by simpa using h100 _ _ _ _),by simp,?_⟩
     simp [ho,hg]
     refine ⟨_,_,.inl (by simpa using h100 _ _ _ _),by simp,?_⟩
     simp [ho,hg]
     refine ⟨_,_,.inl (by simpa using h100 _ _ _ _),by simp,?_⟩
     simp [ho,hg]
     refine ⟨_,_,.inl (by simpa using h98 _ _ _),by simp,?_⟩
     simp [ho,hg]
     refine ⟨_,_,.inl (by simpa using h101 _),by simp,?_⟩
     simp [ho,hg]
     refine ⟨_,_,.inl (by simpa using h98 _ _ _),by simp,?_⟩
     simp [ho,hg]
     refine ⟨_,_,.inl (by simpa using h102 _),by simp,?_⟩
     simp [ho,hg]
     refine ⟨_,_,.inl (by simpa using h103 _),by simp,?_⟩
     simp [ho,hg]
     refine ⟨_,_,.inl (by simpa using h97 [whenI (decide (2 < Origin)) 5,e99,whenI (Next == 0) 1,optI HasMED MED 0,optI HasPref Pref 0,optI false AggrAS 1,whenI (AggrAddr != 0) 1,e101,whenI (HasOrig == (Origr == 0)) 1,e102,e103] rfl _),by simp,?_⟩
     simp [ho,hg]
end Go.Proofs.YtapgoboiljjecaaGreatDoor

/- Attributes are decoded. Printed by gen12.py. -/
namespace Go.Proofs.YtapgoboiljjecaaGreatDoor
open Go Go.Am
set_option linter.unusedSimpArgs false
def decAt (b:List Int):Att × Int :=
 if (decA b att0 (-1) 0).2 ≠ 0 then (att0,(decA b att0 (-1) 0).2) else if chkAt (decA b att0 (-1) 0).1 ≠ 0 then (att0,chkAt (decA b att0 (-1) 0).1) else ((decA b att0 (-1) 0).1,0)
theorem byte_bits {x:Int} (h:0 ≤ x ∧ x ≤ 255):∃ n:Nat,x = n ∧ (IntKind.u8.wrap ((n % 2 ^ IntKind.u8.bits &&& 16 % 2 ^ IntKind.u8.bits:Nat):Int) != 0) = longB x ∧
   IntKind.u8.wrap ((n % 2 ^ IntKind.u8.bits &&& (2 ^ IntKind.u8.bits - 1 - 16 % 2 ^ IntKind.u8.bits):Nat):Int) = clrB x:=by
 have key:∀ m:Fin 256,((IntKind.u8.wrap ((m.1 % 2 ^ IntKind.u8.bits &&& 16 % 2 ^ IntKind.u8.bits:Nat):Int) != 0) = longB (m.1:Int)) ∧
     (IntKind.u8.wrap ((m.1 % 2 ^ IntKind.u8.bits &&& (2 ^ IntKind.u8.bits - 1 - 16 % 2 ^ IntKind.u8.bits):Nat):Int) = clrB (m.1:Int)):=by decide +kernel
 obtain ⟨n,rfl⟩:∃ n:Nat,x = n:=⟨x.toNat,by omega⟩
 exact ⟨n,rfl,key ⟨n,by omega⟩⟩
set_option maxHeartbeats 8000000 in
set_option maxRecDepth 20000 in
theorem t12 (b:List Int) (hb:isB b) (hlen:b.length ≤ 65535):CFun Tryz.prog 12 [encBs b,.bool true] [] (.tup [encAt (decAt b).1,.int .i64 (decAt b).2]) []:=by
 refine CFun.intro (tr:=[2500071]) (fz:=[]) (n:=99) (rs:=[.cell 4 53,.tmp 5]) Tryz.func12 rfl (by kernel_rfl) rfl rfl mixed (by kernel_rfl) (by simp) (by simp) ?_
 simp
 refine LoopK.intro (tr:=[2500071]) mixed (by kernel_rfl) (fun s:List Int × Att × Int × Int=>[(0,encBs s.1),(1,.bool true),(4,.ptr 0 0),(6,.ptr 1 0),(7,.int .i64 s.2.2.1),(8,.int .i64 s.2.2.2)]) (fun s=>[cellsAO att0,cellsAO s.2.1])
   (fun s=>isB s.1 ∧ s.1.length + s.2.1.Unk.length ≤ 65535 ∧ (-1 ≤ s.2.2.1 ∧ s.2.2.1 ≤ 255) ∧ (0 ≤ s.2.2.2 ∧ s.2.2.2 + s.1.length ≤ 65535) ∧ decA s.1 s.2.1 s.2.2.1 s.2.2.2 = decA b att0 (-1) 0) (fun s=>s.1.length) (b,att0,-1,0) ?_ ?_ ?_
 · simp [att0,hb,hlen]; omega
 · simp [att0]
 · rintro ⟨c,a,last,need⟩ ⟨hc,hl,h1,h2,hr⟩
   simp only at hc hl h1 h2 hr
   unfold decAt
   rw [← hr]
   have hR:=fun h=>(decA_ok b.length b att0 (-1) 0 false false false (Nat.le_refl _) hb okAtt_0 (by omega) (.inr ⟨by constructor <;> intro _ <;> simp [att0],by simp [cnt3]⟩) h).1
   rw [← hr] at hR
   obtain ⟨m,hm⟩:∃ m,c.length = m:=⟨_,rfl⟩
   rw [hm] at hl h2
   by_cases h0:m = 0
   · subst h0
     rw [decA] at hR ⊢
     rw [hm] at hR ⊢
     rw [if_pos rfl] at hR ⊢
     by_cases hd:need < 3
     · rw [if_pos hd]
       simp [hm,hd,att0]
     rw [if_neg hd] at hR ⊢
     have hok:=hR rfl
     have h42:=fun H=>(t42 a (fun s hs=>by have:=(hok.path s hs).2.1; omega)).up' H rfl rfl
     generalize chkAt a = e at *
     simp [hm,hd]
     refine ⟨_,_,.inl (by simpa using h42 _),by simp,?_⟩
     by_cases he:e = 0
     · simp [he]
     · simp [he,att0]
   clear hR
   have h0':(0:Int) < m:=by omega
   have h0n:0 < m:=by omega
   obtain ⟨RA,hx⟩:∃ R,decA c a last need = R:=⟨_,rfl⟩
   rw [hx] at hr ⊢
   rw [decA,if_neg (by omega)] at hx
   have g0:=get_getD (b:=c) (i:=0) (by omega)
   obtain ⟨_,ga0⟩:=List.getElem?_eq_some_iff.1 g0
   have i0:=getD_in hc 0
   have hlB:lenB c = (numAt c 2 (hdB (c.getD 0 0) - 2)).toNat:=rfl
   generalize c.getD 0 0 = x0 at *
   obtain ⟨y0,hy0,hy1,hy2⟩:=byte_bits i0
   rw [hy0] at g0 ga0
   have w41:IntKind.i64.wrap 2 = 2:=rfl
   have w42:IntKind.i64.wrap 1 = 1:=rfl
   by_cases hlg:longB x0 = true
   · have hh:hdB x0 = 4:=by unfold hdB; rw [if_pos hlg]
     rw [hh] at hlB hx
     rw [hlg] at hy1
     rw [hm] at hx
     by_cases g3:m < 4
     · have g3':(m:Int) < 4:=by omega
       rw [if_pos g3] at hx
       simp [hm,h0,h0',h0n,g0,ga0,hy1,g3,g3',← hx,att0]
     have g3':¬ (m:Int) < 4:=by omega
     rw [if_neg g3] at hx
     have h38:=fun H=>(t38 c hc (by omega) 2 2 (by omega) (by omega)).up' H rfl rfl
     have hnum:=numAt_in hc 2 2
     obtain ⟨q,hq⟩:∃ q:Nat,numAt c 2 2 = q:=⟨(numAt c 2 2).toNat,by omega⟩
     rw [show (4 - 2:Nat) = 2 from rfl,hq,Int.toNat_natCast] at hlB
     rw [hq] at h38 hnum
     rw [hlB] at hx
     have wq:IntKind.i64.wrap (4 + (q:Int)) = 4 + q:=wrap_in (by omega)
     simp [hm,h0,h0',h0n,g0,ga0,hy1,g3,g3',w41,w42]
     refine ⟨_,_,.inl (by simpa using h38 _),by simp,?_⟩
     by_cases g4:m < 4 + q
     · have g4':(m:Int) < 4 + q:=by omega
       rw [if_pos g4] at hx
       simp [hm,wq,g4,g4',← hx,att0]
     have g4':¬ (m:Int) < 4 + q:=by omega
     rw [if_neg g4] at hx
     have g1:=get_getD (b:=c) (i:=1) (by omega)
     obtain ⟨_,ga1⟩:=List.getElem?_eq_some_iff.1 g1
     have i1:=getD_in hc 1
     generalize c.getD 1 0 = k at *
     have wk:IntKind.i64.wrap k = k:=wrap_in (by omega)
     have d1:1 < m:=by omega
     have d1':(1:Int) < m:=by omega
     by_cases g5:k ≤ last
     · rw [if_pos g5] at hx
       simp [hm,wq,g4,g4',g1,ga1,wk,d1,d1',g5,← hx,att0]
     rw [if_neg g5] at hx
     have h39:=fun H=>(t39 k i1.1).up' H rfl rfl
     have hv:=isB_take (isB_drop hc 4) q
     have hvl:((c.drop 4).take q).length = q:=by simp only [List.length_take,List.length_drop]; omega
     have hsl:((c.map enc8).take (4 + q)).drop 4 = ((c.drop 4).take q).map enc8:=by
       rw [← List.map_take,← List.map_drop,List.drop_take,Nat.add_sub_cancel_left]
     have h40:=t40 k a ((c.drop 4).take q) hv (by omega) (by omega)
     have hdr:=isB_drop hc (4 + q)
     have hdl:(c.drop (4 + q)).length = m - (4 + q):=by simp only [List.length_drop]; omega
     have hu:=rdA_unk a k ((c.drop 4).take q)
     have hsl2:((c.map enc8).take m).drop (4 + q) = (c.drop (4 + q)).map enc8:=by
       rw [List.take_of_length_le (by simp [hm]),List.map_drop]
     generalize (c.drop 4).take q = v at *
     unfold rd40 at h40
     have h41:=fun H=>t41.up' H rfl rfl
     simp [hm,wq,g4,g4',g1,ga1,wk,d1,d1',g5,h0n,h0',g0,ga0]
     refine ⟨_,_,.inl (by simpa using h39 _),by simp,?_⟩
     by_cases g6:clrB x0 = flg k
     case neg =>
       rw [if_pos (.inl g6)] at hx
       simp [hy2,g6,← hx,att0]
     by_cases g7:q ≤ 255
     · have g7':(q:Int) ≤ 255:=by omega
       rw [if_pos (.inr (.inl ⟨rfl,g7⟩))] at hx
       simp [hy2,g6,g7,g7',← hx,att0]
     have g7':¬ (q:Int) ≤ 255:=by omega
     have h40':=h40.at (H:=[cellsAO att0,cellsAO a]) (id:=1) rfl rfl rfl rfl rfl
     generalize rdA a k v = r at *
     obtain ⟨a2,ok⟩:=r
     simp only at hx h40' hu
     have s1:(4:Int) ≤ 4 + q:=by omega
     have s2:(4:Int) + q ≤ m:=by omega
     have s3:4 + q ≤ m:=by omega
     have s4:(4 + (q:Int)).toNat = 4 + q:=by omega
     have s5:(0:Int) ≤ 4 + q:=by omega
     simp [hy2,g6,g7,g7',hm,wq,s1,s2,s3,s4,s5,hsl]
     refine ⟨_,_,.inl (by simpa using h41 _),by simp,?_⟩
     simp
     refine ⟨_,_,.inl (by simpa [ren,ren0] using h40'),by simp,?_⟩
     cases ok
     · rw [if_pos (.inr (.inr rfl))] at hx
       simp [hy2,← hx,att0]
     rw [if_neg (by simp [g6,g7,show ¬ (4 = 4) ∨ True from .inr trivial])] at hx
     have hul:a2.Unk.length ≤ a.Unk.length + 1:=by rcases hu with e | e <;> rw [e] <;> simp
     have wn:IntKind.i64.wrap (need + 1) = need + 1:=wrap_in (by omega)
     have tail:∀ nd:Int,(nd = need ∨ nd = need + 1) → decA (c.drop (4 + q)) a2 k nd = RA → (isB (c.drop (4 + q)) ∧ (c.drop (4 + q)).length + a2.Unk.length ≤ 65535 ∧ (-1 ≤ k ∧ k ≤ 255) ∧ (0 ≤ nd ∧ nd + (c.drop (4 + q)).length ≤ 65535) ∧ decA (c.drop (4 + q)) a2 k nd = RA) ∧ (c.drop (4 + q)).length < m:=fun nd hnd e=>⟨⟨hdr,by rw [hdl]; omega,by omega,by rw [hdl]; omega,e⟩,by rw [hdl]; omega⟩
     have hdm:(c.map enc8).drop (4 + q) = (c.drop (4 + q)).map enc8:=by rw [List.map_drop]
     by_cases g9:1 ≤ k
     · by_cases g10:k ≤ 3
       · rw [if_pos ⟨g9,g10⟩] at hx
         obtain ⟨t1,t2⟩:=tail _ (.inr rfl) hx
         simp [g9,g10,wn,hm,wq,s1,s2,s3,s4,s5,hsl2]
         exact ⟨_,a2,k,need + 1,t1,t2,⟨hdm,rfl,rfl⟩,by simp⟩
       · rw [if_neg (by omega)] at hx
         obtain ⟨t1,t2⟩:=tail _ (.inl rfl) hx
         simp [g9,g10,wn,hm,wq,s1,s2,s3,s4,s5,hsl2]
         exact ⟨_,a2,k,need,t1,t2,⟨hdm,rfl,rfl⟩,by simp⟩
     · rw [if_neg (by omega)] at hx
       obtain ⟨t1,t2⟩:=tail _ (.inl rfl) hx
       simp [g9,wn,hm,wq,s1,s2,s3,s4,s5,hsl2]
       exact ⟨_,a2,k,need,t1,t2,⟨hdm,rfl,rfl⟩,by simp⟩
   · have hh:hdB x0 = 3:=by unfold hdB; rw [if_neg hlg]
     rw [hh] at hlB hx
     rw [show longB x0 = false by simpa using hlg] at hy1
     rw [hm] at hx
     by_cases g3:m < 3
     · have g3':(m:Int) < 3:=by omega
       rw [if_pos g3] at hx
       simp [hm,h0,h0',h0n,g0,ga0,hy1,g3,g3',← hx,att0]
     have g3':¬ (m:Int) < 3:=by omega
     rw [if_neg g3] at hx
     have h38:=fun H=>(t38 c hc (by omega) 2 1 (by omega) (by omega)).up' H rfl rfl
     have hnum:=numAt_in hc 2 1
     obtain ⟨q,hq⟩:∃ q:Nat,numAt c 2 1 = q:=⟨(numAt c 2 1).toNat,by omega⟩
     rw [show (3 - 2:Nat) = 1 from rfl,hq,Int.toNat_natCast] at hlB
     rw [hq] at h38 hnum
     rw [hlB] at hx
     have wq:IntKind.i64.wrap (3 + (q:Int)) = 3 + q:=wrap_in (by omega)
     simp [hm,h0,h0',h0n,g0,ga0,hy1,g3,g3',w41,w42]
     refine ⟨_,_,.inl (by simpa using h38 _),by simp,?_⟩
     by_cases g4:m < 3 + q
     · have g4':(m:Int) < 3 + q:=by omega
       rw [if_pos g4] at hx
       simp [hm,wq,g4,g4',← hx,att0]
     have g4':¬ (m:Int) < 3 + q:=by omega
     rw [if_neg g4] at hx
     have g1:=get_getD (b:=c) (i:=1) (by omega)
     obtain ⟨_,ga1⟩:=List.getElem?_eq_some_iff.1 g1
     have i1:=getD_in hc 1
     generalize c.getD 1 0 = k at *
     have wk:IntKind.i64.wrap k = k:=wrap_in (by omega)
     have d1:1 < m:=by omega
     have d1':(1:Int) < m:=by omega
     by_cases g5:k ≤ last
     · rw [if_pos g5] at hx
       simp [hm,wq,g4,g4',g1,ga1,wk,d1,d1',g5,← hx,att0]
     rw [if_neg g5] at hx
     have h39:=fun H=>(t39 k i1.1).up' H rfl rfl
     have hv:=isB_take (isB_drop hc 3) q
     have hvl:((c.drop 3).take q).length = q:=by simp only [List.length_take,List.length_drop]; omega
     have hsl:((c.map enc8).take (3 + q)).drop 3 = ((c.drop 3).take q).map enc8:=by
       rw [← List.map_take,← List.map_drop,List.drop_take,Nat.add_sub_cancel_left]
     have h40:=t40 k a ((c.drop 3).take q) hv (by omega) (by omega)
     have hdr:=isB_drop hc (3 + q)
     have hdl:(c.drop (3 + q)).length = m - (3 + q):=by simp only [List.length_drop]; omega
     have hu:=rdA_unk a k ((c.drop 3).take q)
     have hsl2:((c.map enc8).take m).drop (3 + q) = (c.drop (3 + q)).map enc8:=by
       rw [List.take_of_length_le (by simp [hm]),List.map_drop]
     generalize (c.drop 3).take q = v at *
     unfold rd40 at h40
     have h41:=fun H=>t41.up' H rfl rfl
     simp [hm,wq,g4,g4',g1,ga1,wk,d1,d1',g5,h0n,h0',g0,ga0]
     refine ⟨_,_,.inl (by simpa using h39 _),by simp,?_⟩
     by_cases g6:clrB x0 = flg k
     case neg =>
       rw [if_pos (.inl g6)] at hx
       simp [hy2,g6,← hx,att0]
     have h40':=h40.at (H:=[cellsAO att0,cellsAO a]) (id:=1) rfl rfl rfl rfl rfl
     generalize rdA a k v = r at *
     obtain ⟨a2,ok⟩:=r
     simp only at hx h40' hu
     have s1:(3:Int) ≤ 3 + q:=by omega
     have s2:(3:Int) + q ≤ m:=by omega
     have s3:3 + q ≤ m:=by omega
     have s4:(3 + (q:Int)).toNat = 3 + q:=by omega
     have s5:(0:Int) ≤ 3 + q:=by omega
     simp [hy2,g6,hm,wq,s1,s2,s3,s4,s5,hsl]
     refine ⟨_,_,.inl (by simpa using h41 _),by simp,?_⟩
     simp
     refine ⟨_,_,.inl (by simpa [ren,ren0] using h40'),by simp,?_⟩
     cases ok
     · rw [if_pos (.inr (.inr rfl))] at hx
       simp [hy2,← hx,att0]
     rw [if_neg (by simp [g6,show ¬ (3 = 4) ∨ True from .inr trivial])] at hx
     have hul:a2.Unk.length ≤ a.Unk.length + 1:=by rcases hu with e | e <;> rw [e] <;> simp
     have wn:IntKind.i64.wrap (need + 1) = need + 1:=wrap_in (by omega)
     have tail:∀ nd:Int,(nd = need ∨ nd = need + 1) → decA (c.drop (3 + q)) a2 k nd = RA → (isB (c.drop (3 + q)) ∧ (c.drop (3 + q)).length + a2.Unk.length ≤ 65535 ∧ (-1 ≤ k ∧ k ≤ 255) ∧ (0 ≤ nd ∧ nd + (c.drop (3 + q)).length ≤ 65535) ∧ decA (c.drop (3 + q)) a2 k nd = RA) ∧ (c.drop (3 + q)).length < m:=fun nd hnd e=>⟨⟨hdr,by rw [hdl]; omega,by omega,by rw [hdl]; omega,e⟩,by rw [hdl]; omega⟩
     have hdm:(c.map enc8).drop (3 + q) = (c.drop (3 + q)).map enc8:=by rw [List.map_drop]
     by_cases g9:1 ≤ k
     · by_cases g10:k ≤ 3
       · rw [if_pos ⟨g9,g10⟩] at hx
         obtain ⟨t1,t2⟩:=tail _ (.inr rfl) hx
         simp [g9,g10,wn,hm,wq,s1,s2,s3,s4,s5,hsl2]
         exact ⟨_,a2,k,need + 1,t1,t2,⟨hdm,rfl,rfl⟩,by simp⟩
       · rw [if_neg (by omega)] at hx
         obtain ⟨t1,t2⟩:=tail _ (.inl rfl) hx
         simp [g9,g10,wn,hm,wq,s1,s2,s3,s4,s5,hsl2]
         exact ⟨_,a2,k,need,t1,t2,⟨hdm,rfl,rfl⟩,by simp⟩
     · rw [if_neg (by omega)] at hx
       obtain ⟨t1,t2⟩:=tail _ (.inl rfl) hx
       simp [g9,wn,hm,wq,s1,s2,s3,s4,s5,hsl2]
       exact ⟨_,a2,k,need,t1,t2,⟨hdm,rfl,rfl⟩,by simp⟩
end Go.Proofs.YtapgoboiljjecaaGreatDoor

/- Attributes are encoded. Printed by gen13.py. -/
namespace Go.Proofs.YtapgoboiljjecaaGreatDoor
open Go Go.Am
set_option linter.unusedSimpArgs false
theorem put1 {c0:List AVal} {Z:List (List AVal)} (k:Int) (hk:0 ≤ k ∧ k ≤ 255) (v:List Int) (hV:v.length ≤ 65535) (B:List Int) (hB:B.length ≤ 1000000000000) :
   CFun Tryz.prog 43 [.ptr 1 0,.int .i64 k,.sl 1 [.sl 1 (v.map enc8) .sh] .full] (c0 :: cellsW B :: Z) (.tup []) (c0 :: cellsW (B ++ tlvB ⟨k,v⟩) :: Z):=by
 have h:=((t43 k hk [v] 1 rfl (by omega) (by simpa using hV) B hB).wk [.ptr 0 0,.int .i64 k,.sl 1 [.sl 1 (v.map enc8) .sh] .full] (by simp) ⟨rfl,rfl,whole,trivial⟩).at (H:=c0 :: cellsW B :: Z) (id:=1) rfl rfl rfl rfl rfl
 simpa [ren,ren0] using h
theorem put1f {c0:List AVal} {Z:List (List AVal)} (k:Int) (hk:0 ≤ k ∧ k ≤ 255) (v:List Int) (hV:v.length ≤ 65535) (B:List Int) (hB:B.length ≤ 1000000000000) :
   CFun Tryz.prog 43 [.ptr 1 0,.int .i64 k,.sl 1 [.sl 1 (v.map enc8) .full] .full] (c0 :: cellsW B :: Z) (.tup []) (c0 :: cellsW (B ++ tlvB ⟨k,v⟩) :: Z):=by
 have h:=((t43f k hk [v] 1 rfl (by omega) (by simpa using hV) B hB).wk [.ptr 0 0,.int .i64 k,.sl 1 [.sl 1 (v.map enc8) .full] .full] (by simp) ⟨rfl,rfl,whole,trivial⟩).at (H:=c0 :: cellsW B :: Z) (id:=1) rfl rfl rfl rfl rfl
 simpa [ren,ren0] using h
theorem put1z {c0:List AVal} {Z:List (List AVal)} (k:Int) (hk:0 ≤ k ∧ k ≤ 255) (B:List Int) (hB:B.length ≤ 1000000000000) :
   CFun Tryz.prog 43 [.ptr 1 0,.int .i64 k,.sl 0 [] .full] (c0 :: cellsW B :: Z) (.tup []) (c0 :: cellsW (B ++ tlvB ⟨k,[]⟩) :: Z):=by
 have h:=((t43 k hk [] 0 rfl (by omega) (by simp) B hB).wk [.ptr 0 0,.int .i64 k,.sl 0 [] .full] (by simp) (by simp [All2,LeS])).at (H:=c0 :: cellsW B :: Z) (id:=1) rfl rfl rfl rfl rfl
 simpa [ren,ren0] using h
theorem put1b {c0:List AVal} {Z:List (List AVal)} (k:Int) (hk:0 ≤ k ∧ k ≤ 255) (v w:List Int) (hV:v.length + w.length ≤ 65535) (B:List Int) (hB:B.length ≤ 1000000000000) :
   CFun Tryz.prog 43 [.ptr 1 0,.int .i64 k,.sl 1 [.sl 1 (v.map enc8) .sh,.sl 1 (w.map enc8) .sh] .full] (c0 :: cellsW B :: Z) (.tup []) (c0 :: cellsW (B ++ tlvB ⟨k,v ++ w⟩) :: Z):=by
 have h:=((t43 k hk [v,w] 2 rfl (by omega) (by simpa using hV) B hB).wk [.ptr 0 0,.int .i64 k,.sl 1 [.sl 1 (v.map enc8) .sh,.sl 1 (w.map enc8) .sh] .full] (by simp) ⟨rfl,rfl,whole,trivial⟩).at (H:=c0 :: cellsW B :: Z) (id:=1) rfl rfl rfl rfl rfl
 simpa [ren,ren0] using h
theorem as1 {c0:List AVal} {Z:List (List AVal)} (x:Int) (hx:in32 x) (B:List Int):CFun Tryz.prog 46 [.ptr 1 0,.int .i64 x] (c0 :: cellsW B :: Z) (.sl 1 ((numB 4 x).map enc8) .own) (c0 :: cellsW B :: Z):=by
 have h:=(t46 x hx B).at (H:=c0 :: cellsW B :: Z) (id:=1) rfl rfl rfl rfl rfl
 simpa [ren,ren0] using h
theorem path1 {c0:List AVal} {Z:List (List AVal)} (p:List Seg) (hlen:p.length < 1000000) (hp:∀ s ∈ p,okSeg s) (B:List Int):CFun Tryz.prog 44 [.ptr 1 0,.sl 2 (p.map encSeg) .sh] (c0 :: cellsW B :: Z) (.sl 1 ((pathB p).map enc8) .sh) (c0 :: cellsW B :: Z):=by
 have h:=(t44 p p.length rfl hlen hp B).at (H:=c0 :: cellsW B :: Z) (id:=1) rfl rfl rfl rfl rfl
 simpa [ren,ren0] using h
def opB (c:Bool) (t:Tlv):List Int:=if c = true then tlvB t else []
def pAt (a:Att):Nat → List Int
 | 1=>tlvB ⟨1,[a.Origin]⟩
 | 2=>tlvB ⟨2,pathB a.Path⟩
 | 3=>tlvB ⟨3,numB 4 a.Next⟩
 | 4=>opB a.HasMED ⟨4,numB 4 a.MED⟩
 | 5=>opB a.HasPref ⟨5,numB 4 a.Pref⟩
 | 6=>opB a.Atomic ⟨6,[]⟩
 | 7=>opB a.HasAggr ⟨7,numB 4 a.AggrAS ++ numB 4 a.AggrAddr⟩
 | 8=>opB (decide (0 < a.Comm.length)) ⟨8,wordsB a.Comm⟩
 | 9=>opB a.HasOrig ⟨9,numB 4 a.Origr⟩
 | 10=>opB (decide (0 < a.Clus.length)) ⟨10,wordsB a.Clus⟩
 | _=>[]
def qAt (a:Att):Nat → List Int
 | 0=>[]
 | k + 1=>qAt a k ++ pAt a (k + 1)
def uAt (a:Att) (i:Nat):List Int:=((a.Unk.take i).map tlvB).flatten
theorem opt_flat (c:Bool) (t:Tlv):(((if c = true then [t] else []):List Tlv).map tlvB).flatten = opB c t:=by
 cases c <;> simp [opB]
theorem opt_flat2 (n:Nat) (t:Tlv):(((if 0 < n then [t] else []):List Tlv).map tlvB).flatten = opB (decide (0 < n)) t:=by
 by_cases h:0 < n <;> simp [opB,h]
theorem attsB_parts (a:Att):attsB a = qAt a 10 ++ uAt a a.Unk.length:=by
 unfold attsB tlvsA
 simp only [List.map_append,List.flatten_append,opt_flat,opt_flat2,qAt,pAt,uAt,List.take_length,List.nil_append,if_true,List.map_cons,List.map_nil,List.flatten_cons,List.flatten_nil,List.append_nil]
theorem qAt_le (a:Att):∀ k,k ≤ 10 → (qAt a k).length + (uAt a 0).length ≤ (attsB a).length:=by
 intro k hk
 have key:∀ d,(qAt a k).length ≤ (qAt a (k + d)).length:=by
   intro d
   induction d with
   | zero=>exact Nat.le_refl _
   | succ d ih=>rw [← Nat.add_assoc,qAt,List.length_append]; omega
 have:=key (10 - k)
 rw [show k + (10 - k) = 10 by omega] at this
 rw [attsB_parts,List.length_append]
 simp [uAt]
 omega
theorem uAt_succ (a:Att) (i:Nat) (t:Tlv) (h:a.Unk[i]? = some t):uAt a (i + 1) = uAt a i ++ tlvB t:=by
 unfold uAt
 rw [List.take_add_one,h]
 simp
theorem uAt_le (a:Att) (i:Nat):(uAt a i).length ≤ (uAt a a.Unk.length).length:=by
 unfold uAt
 rw [List.take_length]
 have:=congrArg (fun l=>(l.map tlvB).flatten.length) (List.take_append_drop i a.Unk)
 simp only [List.map_append,List.flatten_append,List.length_append] at this
 omega
theorem tlvB_val (t:Tlv):t.Val.length ≤ (tlvB t).length:=by
 unfold tlvB; split <;> simp <;> omega
theorem pAt_le (a:Att) (k:Nat) (h:k + 1 ≤ 10):(pAt a (k + 1)).length ≤ (attsB a).length:=by
 have:=qAt_le a (k + 1) h
 rw [qAt,List.length_append] at this
 omega
set_option maxHeartbeats 16000000 in
set_option maxRecDepth 20000 in
theorem t13 (a:Att) (ok:okAtt a) (hc:chkAt a = 0) (hsz:(attsB a).length ≤ 65535):CFun Tryz.prog 13 [encAt a,.bool true] [] (.tup [encBs (attsB a),.int .i64 0]) []:=by
 refine CFun.introS (fz:=[]) (n:=124) (rs:=[.tmp 4,.tmp 5]) Tryz.func13 rfl (by kernel_rfl) rfl rfl (by simp) (by simp) ?_
 have h42:=fun H=>(t42 a (fun s hs=>by have:=(ok.path s hs).2.1; omega)).up' H rfl rfl
 rw [hc] at h42
 have hq:=fun k (h:k ≤ 10)=>qAt_le a k h
 have hp:=fun k (h:k + 1 ≤ 10)=>pAt_le a k h
 have hb:∀ k,k ≤ 10 → (qAt a k).length ≤ 1000000000000:=fun k h=>by have:=hq k h; omega
 have l4:=fun x=>numB_len 4 x
 refine SWp_cut (tr:=[]) mixed (by kernel_rfl) [(1,.bool true),(2,.ptr 0 0)] [cellsAt a] ?_ ?_
 · simp
 refine SWp_cut (tr:=[]) mixed (by kernel_rfl) [(1,.bool true),(2,.ptr 0 0)] [cellsAt a] ?_ ?_
 · simp
   refine ⟨_,_,.inl (by simpa using h42 _),by simp,?_⟩
   simp
 refine SWp_cut (tr:=[]) mixed (by kernel_rfl) [(2,.ptr 0 0),(7,.ptr 1 0)] [cellsAt a,cellsW (qAt a 0)] ?_ ?_
 · simp [qAt]
 refine SWp_cut (tr:=[]) mixed (by kernel_rfl) [(2,.ptr 0 0),(7,.ptr 1 0)] [cellsAt a,cellsW (qAt a 1)] ?_ ?_
 · have w1:IntKind.u8.wrap a.Origin = a.Origin:=by rw [wrap_u8]; have:=ok.org; omega
   have h43:=put1f (c0:=cellsAt a) (Z:=[]) 1 (by omega) [a.Origin] (by simp) (qAt a 0) (hb 0 (by omega))
   simp [w1]
   refine ⟨_,_,.inl (by simpa using h43),by simp,?_⟩
   simp [qAt,pAt]
 refine SWp_cut (tr:=[]) mixed (by kernel_rfl) [(2,.ptr 0 0),(7,.ptr 1 0)] [cellsAt a,cellsW (qAt a 2)] ?_ ?_
 · have h44:=path1 (c0:=cellsAt a) (Z:=[]) a.Path (by have:=ok.plen; omega) ok.path (qAt a 1)
   have hv:(pathB a.Path).length ≤ 65535:=by have h1:=hp 1 (by omega); have h2:=tlvB_val ⟨2,pathB a.Path⟩; simp only [pAt] at h1; simp only at h2; omega
   have h43:=put1 (c0:=cellsAt a) (Z:=[]) 2 (by omega) (pathB a.Path) hv (qAt a 1) (hb 1 (by omega))
   have e:qAt a 2 = qAt a 1 ++ tlvB ⟨2,pathB a.Path⟩:=rfl
   rw [e]
   generalize qAt a 1 = Q at *
   generalize pathB a.Path = V at *
   simp
   refine ⟨_,_,.inl (by simpa using h44),by simp,?_⟩
   simp
   refine ⟨_,_,.inl (by simpa using h43),by simp,?_⟩
   simp
 refine SWp_cut (tr:=[]) mixed (by kernel_rfl) [(2,.ptr 0 0),(7,.ptr 1 0)] [cellsAt a,cellsW (qAt a 3)] ?_ ?_
 · have w1:=i64_in ok.next
   have h45:=fun H=>(t45 a.Next ok.next).up' H rfl rfl
   have h43:=put1 (c0:=cellsAt a) (Z:=[]) 3 (by omega) (numB 4 a.Next) (by rw [l4]; omega) (qAt a 2) (hb 2 (by omega))
   have e:qAt a 3 = qAt a 2 ++ tlvB ⟨3,numB 4 a.Next⟩:=rfl
   rw [e]
   generalize qAt a 2 = Q at *
   generalize numB 4 a.Next = V at *
   simp [w1]
   refine ⟨_,_,.inl (by simpa using h45 _),by simp,?_⟩
   simp
   refine ⟨_,_,.inl (by simpa using h43),by simp,?_⟩
   simp
 refine SWp_cut (tr:=[]) mixed (by kernel_rfl) [(2,.ptr 0 0),(7,.ptr 1 0)] [cellsAt a,cellsW (qAt a 4)] ?_ ?_
 · have w1:=i64_in ok.med
   have h45:=fun H=>(t45 a.MED ok.med).up' H rfl rfl
   have h43:=put1 (c0:=cellsAt a) (Z:=[]) 4 (by omega) (numB 4 a.MED) (by rw [l4]; omega) (qAt a 3) (hb 3 (by omega))
   have e:qAt a 4 = qAt a 3 ++ opB a.HasMED ⟨4,numB 4 a.MED⟩:=rfl
   rw [e]
   generalize qAt a 3 = Q at *
   generalize numB 4 a.MED = V at *
   cases hf:a.HasMED
   · simp [hf,opB]
   · simp [hf,w1]
     refine ⟨_,_,.inl (by simpa [hf] using h45 _),by simp,?_⟩
     simp [hf]
     refine ⟨_,_,.inl (by simpa [hf] using h43),by simp,?_⟩
     simp [hf,opB]
 refine SWp_cut (tr:=[]) mixed (by kernel_rfl) [(2,.ptr 0 0),(7,.ptr 1 0)] [cellsAt a,cellsW (qAt a 5)] ?_ ?_
 · have w1:=i64_in ok.pref
   have h45:=fun H=>(t45 a.Pref ok.pref).up' H rfl rfl
   have h43:=put1 (c0:=cellsAt a) (Z:=[]) 5 (by omega) (numB 4 a.Pref) (by rw [l4]; omega) (qAt a 4) (hb 4 (by omega))
   have e:qAt a 5 = qAt a 4 ++ opB a.HasPref ⟨5,numB 4 a.Pref⟩:=rfl
   rw [e]
   generalize qAt a 4 = Q at *
   generalize numB 4 a.Pref = V at *
   cases hf:a.HasPref
   · simp [hf,opB]
   · simp [hf,w1]
     refine ⟨_,_,.inl (by simpa [hf] using h45 _),by simp,?_⟩
     simp [hf]
     refine ⟨_,_,.inl (by simpa [hf] using h43),by simp,?_⟩
     simp [hf,opB]
 refine SWp_cut (tr:=[]) mixed (by kernel_rfl) [(2,.ptr 0 0),(7,.ptr 1 0)] [cellsAt a,cellsW (qAt a 6)] ?_ ?_
 · have h43:=put1z (c0:=cellsAt a) (Z:=[]) 6 (by omega) (qAt a 5) (hb 5 (by omega))
   have e:qAt a 6 = qAt a 5 ++ opB a.Atomic ⟨6,[]⟩:=rfl
   rw [e]
   generalize qAt a 5 = Q at *
   cases hf:a.Atomic
   · simp [hf,opB]
   · simp [hf]
     refine ⟨_,_,.inl (by simpa [hf] using h43),by simp,?_⟩
     simp [hf,opB]
 refine SWp_cut (tr:=[2500071,2500065]) mixed (by kernel_rfl) [(2,.ptr 0 0),(7,.ptr 1 0)] [cellsAt a,cellsW (qAt a 7)] ?_ ?_
 · have w1:=i64_in ok.aad
   have h46:=as1 (c0:=cellsAt a) (Z:=[]) a.AggrAS ok.aas (qAt a 6)
   have h45:=fun H=>(t45 a.AggrAddr ok.aad).up' H rfl rfl
   have h43:=put1b (c0:=cellsAt a) (Z:=[]) 7 (by omega) (numB 4 a.AggrAS) (numB 4 a.AggrAddr) (by rw [l4,l4]; omega) (qAt a 6) (hb 6 (by omega))
   have e:qAt a 7 = qAt a 6 ++ opB a.HasAggr ⟨7,numB 4 a.AggrAS ++ numB 4 a.AggrAddr⟩:=rfl
   rw [e]
   generalize qAt a 6 = Q at *
   generalize numB 4 a.AggrAS = V at *
   generalize numB 4 a.AggrAddr = V2 at *
   cases hf:a.HasAggr
   · simp [hf,opB]
   · simp [hf,w1]
     refine ⟨_,_,.inl (by simpa [hf] using h46),by simp,?_⟩
     simp [hf,w1]
     refine ⟨_,_,.inl (by simpa [hf] using h45 _),by simp,?_⟩
     simp [hf]
     refine ⟨_,_,.inl (by simpa [hf] using h43),by simp,?_⟩
     simp [hf,opB]
 refine SWp_cut (tr:=[]) mixed (by kernel_rfl) [(2,.ptr 0 0),(7,.ptr 1 0)] [cellsAt a,cellsW (qAt a 8)] ?_ ?_
 · have e:qAt a 8 = qAt a 7 ++ opB (decide (0 < a.Comm.length)) ⟨8,wordsB a.Comm⟩:=rfl
   have hv:0 < a.Comm.length → (wordsB a.Comm).length ≤ 65535:=fun h0=>by have h1:=hp 7 (by omega); have h2:=tlvB_val ⟨8,wordsB a.Comm⟩; simp only [pAt,opB,decide_eq_true h0,if_true] at h1; simp only at h2; omega
   obtain ⟨n,hn⟩:∃ n,a.Comm.length = n:=⟨_,rfl⟩
   have h47:=fun H=>(t47 a.Comm n hn (by have:=ok.clen; omega) ok.comm).up' H rfl rfl
   have h43:=fun h=>put1 (c0:=cellsAt a) (Z:=[]) 8 (by omega) (wordsB a.Comm) (hv h) (qAt a 7) (hb 7 (by omega))
   rw [e]
   rw [hn] at h43 ⊢
   generalize qAt a 7 = Q at *
   generalize wordsB a.Comm = V at *
   by_cases h0:0 < n
   · have h0':(0:Int) < n:=by omega
     simp [hn,h0,h0']
     refine ⟨_,_,.inl (by simpa using h47 _),by simp,?_⟩
     simp
     refine ⟨_,_,.inl (by simpa using h43 h0),by simp,?_⟩
     simp [h0,opB]
   · have h0':¬ (0:Int) < n:=by omega
     simp [hn,h0,h0',opB]
 refine SWp_cut (tr:=[]) mixed (by kernel_rfl) [(2,.ptr 0 0),(7,.ptr 1 0)] [cellsAt a,cellsW (qAt a 9)] ?_ ?_
 · have w1:=i64_in ok.origr
   have h45:=fun H=>(t45 a.Origr ok.origr).up' H rfl rfl
   have h43:=put1 (c0:=cellsAt a) (Z:=[]) 9 (by omega) (numB 4 a.Origr) (by rw [l4]; omega) (qAt a 8) (hb 8 (by omega))
   have e:qAt a 9 = qAt a 8 ++ opB a.HasOrig ⟨9,numB 4 a.Origr⟩:=rfl
   rw [e]
   generalize qAt a 8 = Q at *
   generalize numB 4 a.Origr = V at *
   cases hf:a.HasOrig
   · simp [hf,opB]
   · simp [hf,w1]
     refine ⟨_,_,.inl (by simpa [hf] using h45 _),by simp,?_⟩
     simp [hf]
     refine ⟨_,_,.inl (by simpa [hf] using h43),by simp,?_⟩
     simp [hf,opB]
 refine SWp_cut (tr:=[]) mixed (by kernel_rfl) [(2,.ptr 0 0),(7,.ptr 1 0)] [cellsAt a,cellsW (qAt a 10)] ?_ ?_
 · have e:qAt a 10 = qAt a 9 ++ opB (decide (0 < a.Clus.length)) ⟨10,wordsB a.Clus⟩:=rfl
   have hv:0 < a.Clus.length → (wordsB a.Clus).length ≤ 65535:=fun h0=>by have h1:=hp 9 (by omega); have h2:=tlvB_val ⟨10,wordsB a.Clus⟩; simp only [pAt,opB,decide_eq_true h0,if_true] at h1; simp only at h2; omega
   obtain ⟨n,hn⟩:∃ n,a.Clus.length = n:=⟨_,rfl⟩
   have h47:=fun H=>(t47 a.Clus n hn (by have:=ok.llen; omega) ok.clus).up' H rfl rfl
   have h43:=fun h=>put1 (c0:=cellsAt a) (Z:=[]) 10 (by omega) (wordsB a.Clus) (hv h) (qAt a 9) (hb 9 (by omega))
   rw [e]
   rw [hn] at h43 ⊢
   generalize qAt a 9 = Q at *
   generalize wordsB a.Clus = V at *
   by_cases h0:0 < n
   · have h0':(0:Int) < n:=by omega
     simp [hn,h0,h0']
     refine ⟨_,_,.inl (by simpa using h47 _),by simp,?_⟩
     simp
     refine ⟨_,_,.inl (by simpa using h43 h0),by simp,?_⟩
     simp [h0,opB]
   · have h0':¬ (0:Int) < n:=by omega
     simp [hn,h0,h0',opB]
 have ha:=attsB_parts a
 have hul:=uAt_le a
 have hus:=uAt_succ a
 have hval:∀ (i:Nat) (t:Tlv),a.Unk[i]? = some t → t.Val.length ≤ 65535:=fun i t h=>by
   have:=(ok.unk t (List.mem_of_getElem? h)).2.2; omega
 have hkd:∀ (i:Nat) (t:Tlv),a.Unk[i]? = some t → 0 ≤ t.Kind ∧ t.Kind ≤ 255:=fun i t h=>(ok.unk t (List.mem_of_getElem? h)).1
 have hu0:uAt a 0 = []:=rfl
 have hbl:∀ i,(qAt a 10).length + (uAt a i).length ≤ 65535:=fun i=>by
   have:=hul i
   rw [ha,List.length_append] at hsz
   omega
 generalize qAt a 10 = Q at *
 refine SWp_cut (tr:=[]) mixed (by kernel_rfl) [(7,.ptr 1 0)] [cellsAt a,cellsW (attsB a)] ?_ ?_
 · obtain ⟨n,hn⟩:∃ n,a.Unk.length = n:=⟨_,rfl⟩
   rw [hn] at ha
   have hn2:n ≤ 65535:=by
     have:=hbl n
     have h3:∀ l:List Tlv,l.length ≤ (l.map tlvB).flatten.length:=by
       intro l
       induction l with
       | nil=>simp
       | cons t l ih =>
         have:1 ≤ (tlvB t).length:=by unfold tlvB; split <;> simp
         simp only [List.map_cons,List.flatten_cons,List.length_append,List.length_cons]
         omega
     have h4:=h3 (a.Unk.take n)
     rw [List.take_of_length_le (by omega),hn] at h4
     unfold uAt at this
     rw [List.take_of_length_le (by omega)] at this
     omega
   simp [hn]
   refine LoopK.intro (tr:=[]) mixed (by kernel_rfl) (fun i:Nat=>[(2,.ptr 0 0),(7,.ptr 1 0),(102,.sl 2 (a.Unk.map encTlv) .sh),(103,.int .i64 n),(104,.int .i64 i)]) (fun i=>[cellsAt a,cellsW (Q ++ uAt a i)]) (fun i=>i ≤ n) (fun i=>n - i) 0 ?_ ?_ ?_
   · simp
   · simp [hu0]
   · rintro i i1
     by_cases hi:i < n
     · obtain ⟨t,ht,_⟩:=get_drop (l:=a.Unk) (i:=i) (by omega)
       have w1:IntKind.i64.wrap ((i:Int) + 1) = i + 1:=wrap_in (by omega)
       have hv:=hval i t ht
       have hk:=hkd i t ht
       have e:=hus i t ht
       have hbi:=hbl i
       obtain ⟨K,V⟩:=t
       simp only at hv hk
       have h43:=put1 (c0:=cellsAt a) (Z:=[[.int .i64 K,.sl 1 (V.map enc8) .sh]]) K hk V hv (Q ++ uAt a i) (by simp only [List.length_append]; omega)
       generalize uAt a i = X at *
       simp [hi,ht]
       refine ⟨_,_,.inl (by simpa using h43),by simp,?_⟩
       simp [w1]
       exact ⟨i + 1,by omega,by omega,by simp,by simp [e]⟩
     · have e:i = n:=by omega
       subst e
       simp [hi,ha]
 refine SWp_of (tr:=[]) mixed (by kernel_rfl) ?_
 simp
end Go.Proofs.YtapgoboiljjecaaGreatDoor

/- Label messages. -/
namespace Go.Proofs.YtapgoboiljjecaaGreatDoor
open Go Go.Am
set_option linter.unusedSimpArgs false
@[simp] def encLb (m:Lab):AVal:=.agg [.int .i64 m.Kind,.int .u32 m.Addr,.int .i64 m.Len,.int .i64 m.Label]
set_option maxHeartbeats 4000000 in
set_option maxRecDepth 20000 in
theorem t49 (m:Lab):CFun Tryz.prog 49 [encLb m] [] (.int .i64 (chkLb m)) []:=by
 refine CFun.intro (tr:=[]) (fz:=[]) (n:=45) (rs:=[.tmp 2]) Tryz.func49 rfl (by kernel_rfl) rfl rfl mixed (by kernel_rfl) (by simp) (by simp) ?_
 obtain ⟨K,A,N,L⟩:=m
 have h77:=fun H=>(c77 A N).up' H rfl rfl
 unfold chkLb
 simp only
 by_cases h1:K < 1
 · simp [h1]
 by_cases h4:4 < K
 · simp [h1,h4]
 simp [h1,h4]
 refine ⟨_,_,.inl (by simpa using h77 _),by simp,?_⟩
 cases hv:validP A N
 · simp
 by_cases hk:K = 4
 · by_cases hl:L = 0 <;> simp [hk,hl]
 by_cases h3:L = 3
 · simp [hk,h3]
 by_cases h16:L < 16
 · simp [hk,h3,h16]
 by_cases hm:1048575 < L <;> simp [hk,h3,h16,hm]
set_option maxHeartbeats 4000000 in
set_option maxRecDepth 20000 in
theorem t15 (m:Lab) (hk:0 ≤ m.Kind ∧ m.Kind ≤ 255) (hn:0 ≤ m.Len ∧ m.Len ≤ 255) (ha:in32 m.Addr) (hl:in32 m.Label) (hc:chkLb m = 0):CFun Tryz.prog 15 [encLb m] [] (.tup [encBs (labB m),.int .i64 0]) []:=by
 refine CFun.intro (tr:=[]) (fz:=[]) (n:=33) (rs:=[.tmp 2,.tmp 3]) Tryz.func15 rfl (by kernel_rfl) rfl rfl mixed (by kernel_rfl) (by simp) (by simp) ?_
 have h49:=fun H=>(t49 m).up' H rfl rfl
 rw [hc] at h49
 clear hc
 obtain ⟨K,A,N,L⟩:=m
 simp only at hk hn ha hl
 have wk:IntKind.u8.wrap K = K:=by rw [wrap_u8]; omega
 have wn:IntKind.u8.wrap N = N:=by rw [wrap_u8]; omega
 have wa:=u64_in ha
 have wl:=u64_in hl
 have h1:=fun H=>((c88 [K,N] (by simp) 4 (by omega) A).wk [.sl 1 [.int .u8 K,.int .u8 N] .full,.int .i64 4,.int .u64 A] (by simp) ⟨whole,rfl,rfl,trivial⟩).up' H rfl rfl
 have n4:=numB_len 4 A
 have h2:=fun H=>(c88 ([K,N] ++ numB 4 A) (by simp; omega) 4 (by omega) L).up' H rfl rfl
 unfold labB
 simp only
 generalize numB 4 A = V at *
 generalize numB 4 L = V2 at *
 simp
 refine ⟨_,_,.inl (by simpa using h49 _),by simp,?_⟩
 simp [wk,wn,wa]
 refine ⟨_,_,.inl (by simpa using h1 _),by simp,?_⟩
 by_cases h4:K = 4
 · simp [h4]
 · simp [h4,wl]
   refine ⟨_,_,.inl (by simpa using h2 _),by simp,?_⟩
   simp [h4]
set_option maxHeartbeats 8000000 in
set_option maxRecDepth 20000 in
theorem t14 (b:List Int) (hb:isB b) (hlen:b.length ≤ 65535):CFun Tryz.prog 14 [encBs b] [] (.tup [encLb (decLb b).1,.int .i64 (decLb b).2]) []:=by
 refine CFun.intro (tr:=[]) (fz:=[]) (n:=72) (rs:=[.cell 2 65,.tmp 3]) Tryz.func14 rfl (by kernel_rfl) rfl rfl mixed (by kernel_rfl) (by simp) (by simp) ?_
 obtain ⟨m,hm⟩:∃ m,b.length = m:=⟨_,rfl⟩
 obtain ⟨R,hx⟩:∃ R,decLb b = R:=⟨_,rfl⟩
 rw [hx]
 unfold decLb labR at hx
 rw [hm] at hx hlen
 have h31:=fun at_ (h:at_ + 4 ≤ m) H=>(c93 b hb (by omega) at_ 4 (by omega) (by omega)).up' H rfl rfl
 have in2:=numAt_in hb 2 4
 have in6:=numAt_in hb 6 4
 by_cases h0:m = 0
 · rw [if_pos h0] at hx
   simp [hm,h0,← hx,lab0]
 rw [if_neg h0] at hx
 have h0':¬ (m:Int) = 0:=by omega
 have h0n:0 < m:=by omega
 have h0p:(0:Int) < m:=by omega
 have g0:=get_getD (b:=b) (i:=0) (by omega)
 obtain ⟨_,ga0⟩:=List.getElem?_eq_some_iff.1 g0
 have i0:=getD_in hb 0
 have hg1:=fun (h:1 < m)=>get_getD (b:=b) (i:=1) (by omega)
 have i1:=getD_in hb 1
 have h48:=fun k H=>(t48 k).up' H rfl rfl
 generalize b.getD 0 0 = K at *
 generalize b.getD 1 0 = N at *
 have wK:IntKind.i64.wrap K = K:=wrap_in (by omega)
 have wN:IntKind.i64.wrap N = N:=wrap_in (by omega)
 by_cases h1:K < 1
 · rw [if_pos (.inl h1)] at hx
   simp [hm,h0,h0',h0n,h0p,g0,ga0,wK,h1,← hx,lab0]
 by_cases h4:4 < K
 · rw [if_pos (.inr h4)] at hx
   simp [hm,h0,h0',h0n,h0p,g0,ga0,wK,h1,h4,← hx,lab0]
 rw [if_neg (by omega)] at hx
 simp [hm,h0,h0',h0n,h0p,g0,ga0,wK,h1,h4]
 refine ⟨_,_,.inl (by simpa using h48 K _),by simp,?_⟩
 by_cases s1:(m:Int) < sizeL K
 · rw [if_pos s1] at hx
   simp [hm,s1,← hx,lab0]
 rw [if_neg s1] at hx
 simp [hm,s1]
 refine ⟨_,_,.inl (by simpa using h48 K _),by simp,?_⟩
 by_cases s2:sizeL K < m
 · rw [if_pos s2] at hx
   simp [hm,s2,← hx,lab0]
 rw [if_neg s2] at hx
 have h2:6 ≤ m:=by unfold sizeL at s1; split at s1 <;> omega
 have g1:=hg1 (by omega)
 obtain ⟨_,ga1⟩:=List.getElem?_eq_some_iff.1 g1
 have d1:1 < m:=by omega
 have d1':(1:Int) < m:=by omega
 have h31a:=h31 2 (by omega)
 rw [if_pos (by omega)] at h31a
 have w2:=u32_in in2
 generalize numAt b 2 4 = A at *
 simp [hm,s2]
 refine ⟨_,_,.inl (by simpa using h31a _),by simp,?_⟩
 by_cases hk:K = 4
 · rw [if_pos hk] at hx
   have h49:=fun H=>(t49 ⟨K,A,N,0⟩).up' H rfl rfl
   generalize chkLb ⟨K,A,N,0⟩ = e at *
   simp [hm,w2,g1,ga1,d1,d1',wN,hk]
   refine ⟨_,_,.inl (by simpa [hk] using h49 _),by simp,?_⟩
   by_cases he:e = 0
   · rw [if_neg (by omega)] at hx
     simp [he,← hx,hk]
   · rw [if_pos he] at hx
     simp [he,← hx,lab0]
 · rw [if_neg hk] at hx
   have hm10:10 ≤ m:=by unfold sizeL at s1; rw [if_neg hk] at s1; omega
   have h31b:=h31 6 (by omega)
   rw [if_pos (by omega)] at h31b
   have w6:IntKind.i64.wrap (numAt b 6 4) = numAt b 6 4:=i64_in in6
   generalize numAt b 6 4 = L at *
   have h49:=fun H=>(t49 ⟨K,A,N,L⟩).up' H rfl rfl
   generalize chkLb ⟨K,A,N,L⟩ = e at *
   simp [hm,w2,g1,ga1,d1,d1',wN,hk]
   refine ⟨_,_,.inl (by simpa using h31b _),by simp,?_⟩
   simp [w6]
   refine ⟨_,_,.inl (by simpa [hk] using h49 _),by simp,?_⟩
   by_cases he:e = 0
   · rw [if_neg (by omega)] at hx
     simp [he,← hx,hk]
   · rw [if_pos he] at hx
     simp [he,← hx,lab0]
end Go.Proofs.YtapgoboiljjecaaGreatDoor
