import Derived.Test.YtapgoboiljjecaaGreatDoorQK26
set_option linter.unusedSimpArgs false
set_option linter.unusedVariables false
namespace Go.Proofs.YtapgoboiljjecaaGreatDoor
open Go Go.Am
theorem lend71 {H:List (List AVal)} {id:Nat} {b:List Int} {n:Nat} {cap:Option Nat} (hid:H[id]? = some (b.map enc8)) (hn:b.length = n) (h0:0 < n) (hlen:n < 140737488355328) (hb:isB b) :
   CFun Tryz.prog 22 [.osl id 0 n cap 1] H (.int .i64 (inet b)) H:=by
 have h:=f71 b n hn hlen hb
 have hne:b.map enc8 ≠ []:=by intro e; have:=congrArg List.length e; simp at this; subst this; simp at hn; omega
 have e:frzV id (b.map enc8) false false (.osl id 0 n cap 1) = encBs b:=by
   simp only [frzV,frz1,fmode]
   rw [if_pos ⟨trivial,by simp; omega,by omega,by simp⟩,chunk8 b n hn]
   rfl
 have:=CFun.lend (args:=[.osl id 0 n cap 1]) (id:=id) (cs:=b.map enc8) (cs0:=b.map enc8) (ag:=false) (x:=.int .i64 (inet b)) (f:=22) (P:=Tryz.prog) (by simp only [List.map_cons,List.map_nil,e]; exact h) hid hne (fun _ _ h=>h) (Nat.le_refl _) (by rw [List.all_map]; simp [AVal.tree]) (by simp only [List.map_cons,List.map_nil,e]; rfl) rfl
 exact this
set_option maxHeartbeats 1000000 in
set_option maxRecDepth 10000 in
theorem f139 (b:List Int) (n:Nat) (hn:b.length = n) (h0:0 < n) (s1:n ≤ 140737488355328):CFun Tryz.prog 50 [encBs b] [] (.osl 0 0 n none 1) [b.map enc8]:=by
 refine CFun.intro (tr:=[100007]) (fz:=[]) (n:=8) (rs:=[.tmp 2]) Tryz.func50 rfl (by kernel_rfl) rfl rfl mixed (by kernel_rfl) (by simp) (by simp) ?_
 have hne:b ≠ []:=by rintro rfl; simp at hn; omega
 have e:(b.map enc8).isEmpty = false:=by cases b <;> simp_all
 have hc:(b.map enc8).flatMap AVal.cells = b.map enc8:=by
   clear hne e hn
   induction b with
   | nil=>rfl
   | cons x b ih=>simp only [List.map_cons,List.flatMap_cons,ih]; rfl
 have hd:(b.map enc8).map AVal.dis = b.map enc8:=by rw [List.map_map]; rfl
 have hl:LeCells 1 (b.map enc8) (b.map enc8):=treeCells_le 1 (by rw [List.all_map]; simp [AVal.tree])
 simp [hne,hn,h0,s1,e,hc,hd,hl]
end Go.Proofs.YtapgoboiljjecaaGreatDoor

namespace Go.Proofs.YtapgoboiljjecaaGreatDoor
open Go Go.Am
@[simp] def cellsSr (s:Sr):List AVal:=[.sl 1 (s.1.map enc8) .sh,.int .i64 s.2]
def okSr (s:Sr):Prop:=isB s.1 ∧ s.1.length < 281474976710656
theorem nx_ok {s:Sr} (h:okSr s) (n:Nat):okSr (nx n s).2:=by
 unfold nx
 repeat' split
 · exact h
 · exact ⟨isB_drop h.1 n,by simp only [List.length_drop]; have:=h.2; omega⟩
 · exact h
set_option maxHeartbeats 2000000 in
set_option maxRecDepth 10000 in
theorem f106 (s:Sr) (ok:okSr s) (n:Nat) (hn:n ≤ 8):CFun Tryz.prog 17 [.ptr 0 0,.int .i64 n] [cellsSr s] (.int .u64 (nx n s).1) [cellsSr (nx n s).2]:=by
 refine CFun.intro (tr:=[]) (fz:=[]) (n:=38) (rs:=[.tmp 4]) Tryz.func17 rfl (by kernel_rfl) rfl rfl mixed (by kernel_rfl) (by simp) (by simp) ?_
 obtain ⟨b,e⟩:=s
 obtain ⟨hb,hlen⟩:=ok
 simp only at hb hlen
 have h1:=fun H=>(c93 b hb hlen 0 n (by omega) hn).up' H rfl rfl
 simp only [Nat.zero_add] at h1
 obtain ⟨m,hm⟩:∃ m,b.length = m:=⟨_,rfl⟩
 unfold nx
 simp only [hm] at h1 ⊢
 simp
 refine ⟨_,_,.inl (by simpa using h1 _),by simp,?_⟩
 by_cases he:e = 0
 · subst he
   by_cases hnm:n ≤ m
   · have htk:(b.map enc8).take m = b.map enc8:=List.take_of_length_le (by simp [hm])
     simp [hnm,hm,htk]
   · simp [hnm,hm]
 · simp [he]
theorem next_ {H:List (List AVal)} {id:Nat} {s:Sr} (hid:H[id]? = some (cellsSr s)) (ok:okSr s) (n:Nat) (hn:n ≤ 8) :
   CFun Tryz.prog 17 [.ptr id 0,.int .i64 n] H (.int .u64 (nx n s).1) (H.set id (cellsSr (nx n s).2)) :=
 (f106 s ok n hn).at hid rfl rfl rfl rfl
set_option maxHeartbeats 2000000 in
set_option maxRecDepth 10000 in
theorem f143 (s:Sr) (ok:okSr s):CFun Tryz.prog 55 [.ptr 0 0] [cellsSr s] (encH (hdP s).1) [cellsSr (hdP s).2]:=by
 refine CFun.intro (tr:=[]) (fz:=[]) (n:=43) (rs:=[.cell 2 41]) Tryz.func55 rfl (by kernel_rfl) rfl rfl mixed (by kernel_rfl) (by simp) (by simp) ?_
 obtain ⟨b,e⟩:=s
 obtain ⟨hb,hlen⟩:=ok
 simp only at hb hlen
 have h1:=fun H=>(c36 b hb hlen).up' H rfl rfl
 unfold hdP
 by_cases he:e = 0
 case neg=>simp [he,hdr0]
 subst he
 simp
 refine ⟨_,_,.inl (by simpa using h1 _),by simp,?_⟩
 by_cases hd:(decH b).2 = 0
 · obtain ⟨g1,g2,g3⟩:=decH_ok hd
   have h2:=fun H=>(c33 (hdrAt b)).up' H rfl rfl
   have e2:ehL (hdrAt b) = (hdrB (hdrAt b),0):=by unfold ehL; rw [if_neg (by simp [g2])]
   rw [e2] at h2
   have hl:=hdrB_len (hdrAt b)
   rw [g3]
   generalize hdrAt b = x at *
   obtain ⟨m,hm⟩:∃ m,b.length = m:=⟨_,rfl⟩
   simp
   refine ⟨_,_,.inl (by simpa using h2 _),by simp,?_⟩
   rw [hm] at g1
   have g1':(18:Int) ≤ m:=by omega
   have htk:(b.map enc8).take m = b.map enc8:=List.take_of_length_le (by simp [hm])
   simp [hl,hm,g1,g1',htk]
 · simp [hd]
theorem hdP_ok {s:Sr} (h:okSr s):okSr (hdP s).2:=by
 unfold hdP
 repeat' split
 · exact h
 · exact h
 · exact ⟨isB_drop h.1 18,by simp only [List.length_drop]; have:=h.2; omega⟩
theorem decL_le {b:List Int} (hb:isB b):(decL b).2.1 ≤ b.length:=by
 by_cases h:(decL b).2.2 = 0
 · obtain ⟨_,h2,_,_,_,_,h7⟩:=decL_ok hb h
   rw [h7]; exact h2
 · rw [(decL_bad h).2]; omega
set_option maxHeartbeats 2000000 in
set_option maxRecDepth 10000 in
theorem f147 (s:Sr) (ok:okSr s):CFun Tryz.prog 59 [.ptr 0 0] [cellsSr s] (encA (lsP s).1) [cellsSr (lsP s).2]:=by
 refine CFun.intro (tr:=[]) (fz:=[]) (n:=35) (rs:=[.cell 2 44]) Tryz.func59 rfl (by kernel_rfl) rfl rfl mixed (by kernel_rfl) (by simp) (by simp) ?_
 obtain ⟨b,e⟩:=s
 obtain ⟨hb,hlen⟩:=ok
 simp only at hb hlen
 have h1:=fun H=>(c38 b hb hlen).up' H rfl rfl
 have h2:=decL_le hb
 unfold lsP
 by_cases he:e = 0
 case neg=>simp [he,lsa0]
 subst he
 obtain ⟨m,hm⟩:∃ m,b.length = m:=⟨_,rfl⟩
 rw [hm] at h2
 generalize decL b = d at h1 h2 ⊢
 have h2':(d.2.1:Int) ≤ m:=by omega
 simp
 refine ⟨_,_,.inl (by simpa using h1 _),by simp,?_⟩
 have htk:(b.map enc8).take m = b.map enc8:=List.take_of_length_le (by simp [hm])
 simp [hm,h2,h2',htk]
theorem lsP_ok {s:Sr} (h:okSr s):okSr (lsP s).2:=by
 unfold lsP
 split
 · exact h
 · exact ⟨isB_drop h.1 _,by simp only [List.length_drop]; have:=h.2; omega⟩
set_option maxHeartbeats 1000000 in
set_option maxRecDepth 10000 in
theorem f141 (s:Sr) (ok:okSr s) (c1:List AVal) (hc1:LeCells 3 c1 c1):CFun Tryz.prog 53 [.ptr 2 0] [cellsSr s,c1,[.ptr 0 0]] (.int .u32 (nxW s).1) [cellsSr (nxW s).2,c1,[.ptr 0 0]]:=by
 refine CFun.intro (tr:=[]) (fz:=[]) (n:=5) (rs:=[.tmp 1]) Tryz.func53 rfl (by kernel_rfl) rfl rfl mixed (by kernel_rfl) (by simp) (by simp) ?_
 have h1:=next_ (H:=[cellsSr s,c1,[.ptr 0 0]]) (id:=0) rfl ok 4 (by omega)
 simp
 refine ⟨_,_,.inl (by simpa using h1),by simp,?_⟩
 simp [nxW,mapP,W32,hc1]
set_option maxHeartbeats 2000000 in
set_option maxRecDepth 10000 in
theorem f145 (s:Sr) (ok:okSr s) (c1:List AVal) (hc1:LeCells 3 c1 c1):CFun Tryz.prog 57 [.ptr 2 0] [cellsSr s,c1,[.ptr 0 0]] (encY (kyP s).1) [cellsSr (kyP s).2,c1,[.ptr 0 0]]:=by
 refine CFun.intro (tr:=[1500003,1500006,1500009,1500012]) (fz:=[]) (n:=15) (rs:=[.cell 1 126]) Tryz.func57 rfl (by kernel_rfl) rfl rfl mixed (by kernel_rfl) (by simp) (by simp) ?_
 have k1:=nx_ok ok 1
 have k2:=nx_ok k1 4
 have k3:=nx_ok k2 1
 have e:kyP s = (⟨I64 (nx 1 s).1,W32 (nx 4 (nx 1 s).2).1,I64 (nx 1 (nx 4 (nx 1 s).2).2).1,W32 (nx 4 (nx 1 (nx 4 (nx 1 s).2).2).2).1⟩,(nx 4 (nx 1 (nx 4 (nx 1 s).2).2).2).2):=rfl
 rw [e]
 have h1:=fun c3=>next_ (H:=[cellsSr s,c1,[.ptr 0 0],c3]) (id:=0) rfl ok 1 (by omega)
 have h2:=fun c3=>next_ (H:=[cellsSr (nx 1 s).2,c1,[.ptr 0 0],c3]) (id:=0) rfl k1 4 (by omega)
 have h3:=fun c3=>next_ (H:=[cellsSr (nx 4 (nx 1 s).2).2,c1,[.ptr 0 0],c3]) (id:=0) rfl k2 1 (by omega)
 have h4:=fun c3=>next_ (H:=[cellsSr (nx 1 (nx 4 (nx 1 s).2).2).2,c1,[.ptr 0 0],c3]) (id:=0) rfl k3 4 (by omega)
 generalize nx 4 (nx 1 (nx 4 (nx 1 s).2).2).2 = d at *
 generalize nx 1 (nx 4 (nx 1 s).2).2 = c at *
 generalize nx 4 (nx 1 s).2 = b at *
 generalize nx 1 s = a at *
 simp
 refine ⟨_,_,.inl (by simpa using h1 _),by simp,?_⟩
 simp
 refine ⟨_,_,.inl (by simpa using h2 _),by simp,?_⟩
 simp
 refine ⟨_,_,.inl (by simpa using h3 _),by simp,?_⟩
 simp
 refine ⟨_,_,.inl (by simpa using h4 _),by simp,?_⟩
 simp [I64,W32,hc1]
end Go.Proofs.YtapgoboiljjecaaGreatDoor

namespace Go.Proofs.YtapgoboiljjecaaGreatDoor
open Go Go.Am
theorem nx1_in {s:Sr} (ok:okSr s):∃ n:Nat,(nx 1 s).1 = n ∧ n < 256:=by
 have h:=numAt_in ok.1 0 1
 unfold nx
 split
 · exact ⟨0,rfl,by omega⟩
 · split
   · exact ⟨(numAt s.1 0 1).toNat,by simp only; omega,by omega⟩
   · exact ⟨0,rfl,by omega⟩
set_option maxHeartbeats 2000000 in
set_option maxRecDepth 10000 in
theorem m140 (one:Sr → Int × Sr) (f:FuncId) (fs cs:List AVal) (c1 c2:List AVal) (h1:LeCells 3 c1 c1) (h2:LeCells 3 c2 c2) (hlow:low 3 (.fn f fs cs) = true)
   (hone:∀ s,okSr s → CFun Tryz.prog f (fs ++ cs) [cellsSr s,c1,c2] (enc32 (one s).1) [cellsSr (one s).2,c1,c2]) (hok:∀ s,okSr s → okSr (one s).2) (s:Sr) (ok:okSr s) :
   CFun Tryz.prog 52 [.ptr 0 0,.fn f fs cs] [cellsSr s,c1,c2] (.sl 1 ((manyP one s).1.map enc32) .sh) [cellsSr (manyP one s).2,c1,c2]:=by
 refine CFun.intro (tr:=[19]) (fz:=[]) (n:=25) (rs:=[.tmp 4]) Tryz.func52 rfl (by kernel_rfl) rfl rfl mixed (by kernel_rfl) (by simp) (by simp) ?_
 have hx:=next_ (H:=[cellsSr s,c1,c2]) (id:=0) rfl ok 1 (by omega)
 have k1:=nx_ok ok 1
 obtain ⟨n,hn,hn2⟩:=nx1_in ok
 unfold manyP
 generalize nx 1 s = a at *
 obtain ⟨v,s1⟩:=a
 simp only at hn k1 hx ⊢
 subst hn
 have w0:IntKind.i64.wrap (n:Int) = n:=wrap_in (by omega)
 simp only [Int.toNat_natCast]
 generalize hT:manyN one n [] s1 = T
 simp
 refine ⟨_,_,.inl (by simpa using hx),by simp,?_⟩
 simp [w0]
 refine LoopK.intro (tr:=[19]) mixed (by kernel_rfl) (fun q:Nat × List Int × Sr=>[(0,.ptr 0 0),(1,.fn f fs cs),(5,.sl 1 (q.2.1.map enc32) .own),(9,.int .i64 n),(10,.int .i64 ((n:Int) - q.1))]) (fun q=>[cellsSr q.2.2,c1,c2])
   (fun q=>q.1 + q.2.1.length = n ∧ okSr q.2.2 ∧ manyN one q.1 q.2.1 q.2.2 = T) (fun q=>q.1) (n,[],s1) ?_ ?_ ?_
 · exact ⟨by simp,k1,hT⟩
 · simp [h1,h2]
   simpa [low] using hlow
 · rintro ⟨j,l,z⟩ ⟨g1,g2,g3⟩
   simp only at g1 g2 g3
   cases j with
   | zero =>
     simp only [manyN] at g3
     subst g3
     simp [h1,h2]
   | succ j =>
     have lt:(n:Int) - ((j + 1:Nat):Int) < n:=by omega
     have w1:IntKind.i64.wrap ((n:Int) - ((j + 1:Nat):Int) + 1) = n - j:=by rw [wrap_in (by omega)]; omega
     have ho:=hone z g2
     have hk:=hok z g2
     simp only [manyN] at g3
     generalize one z = a at *
     obtain ⟨x,z1⟩:=a
     simp only at ho hk g3
     have s1:l.length + 1 ≤ 140737488355328:=by omega
     have s2:(l.length + 1) * 4 ≤ 140737488355328:=by omega
     generalize ((j + 1:Nat):Int) = J at lt w1 ⊢
     simp [lt]
     refine ⟨_,_,.inl (by simpa [cargs] using ho),by simp,?_⟩
     by_cases hz:z1.2 = 0
     · rw [if_neg (by simp [hz])] at g3
       simp [hz,s1,s2,w1]
       refine ⟨j,l ++ [x],z1.1,z1.2,⟨by simp; omega,hk,g3⟩,by omega,?_⟩
       simp [h1,h2,hz]
       simpa [low] using hlow
     · rw [if_pos hz] at g3
       subst g3
       simp [hz,h1,h2]
set_option maxHeartbeats 2000000 in
set_option maxRecDepth 10000 in
theorem m142 (one:Sr → Hdr × Sr) (f:FuncId) (fs cs:List AVal) (c1 c2:List AVal) (h1:LeCells 3 c1 c1) (h2:LeCells 3 c2 c2) (hlow:low 3 (.fn f fs cs) = true)
   (hone:∀ s,okSr s → CFun Tryz.prog f (fs ++ cs) [cellsSr s,c1,c2] (encH (one s).1) [cellsSr (one s).2,c1,c2]) (hok:∀ s,okSr s → okSr (one s).2) (s:Sr) (ok:okSr s) :
   CFun Tryz.prog 54 [.ptr 0 0,.fn f fs cs] [cellsSr s,c1,c2] (.sl 7 ((manyP one s).1.map encH) .sh) [cellsSr (manyP one s).2,c1,c2]:=by
 refine CFun.intro (tr:=[19]) (fz:=[]) (n:=25) (rs:=[.tmp 4]) Tryz.func54 rfl (by kernel_rfl) rfl rfl mixed (by kernel_rfl) (by simp) (by simp) ?_
 have hx:=next_ (H:=[cellsSr s,c1,c2]) (id:=0) rfl ok 1 (by omega)
 have k1:=nx_ok ok 1
 obtain ⟨n,hn,hn2⟩:=nx1_in ok
 unfold manyP
 generalize nx 1 s = a at *
 obtain ⟨v,s1⟩:=a
 simp only at hn k1 hx ⊢
 subst hn
 have w0:IntKind.i64.wrap (n:Int) = n:=wrap_in (by omega)
 simp only [Int.toNat_natCast]
 generalize hT:manyN one n [] s1 = T
 simp
 refine ⟨_,_,.inl (by simpa using hx),by simp,?_⟩
 simp [w0]
 refine LoopK.intro (tr:=[19]) mixed (by kernel_rfl) (fun q:Nat × List Hdr × Sr=>[(0,.ptr 0 0),(1,.fn f fs cs),(5,.sl 7 (q.2.1.map encH) .own),(9,.int .i64 n),(10,.int .i64 ((n:Int) - q.1))]) (fun q=>[cellsSr q.2.2,c1,c2])
   (fun q=>q.1 + q.2.1.length = n ∧ okSr q.2.2 ∧ manyN one q.1 q.2.1 q.2.2 = T) (fun q=>q.1) (n,[],s1) ?_ ?_ ?_
 · exact ⟨by simp,k1,hT⟩
 · simp [h1,h2]
   simpa [low] using hlow
 · rintro ⟨j,l,z⟩ ⟨g1,g2,g3⟩
   simp only at g1 g2 g3
   cases j with
   | zero =>
     simp only [manyN] at g3
     subst g3
     simp [h1,h2]
   | succ j =>
     have lt:(n:Int) - ((j + 1:Nat):Int) < n:=by omega
     have w1:IntKind.i64.wrap ((n:Int) - ((j + 1:Nat):Int) + 1) = n - j:=by rw [wrap_in (by omega)]; omega
     have ho:=hone z g2
     have hk:=hok z g2
     simp only [manyN] at g3
     generalize one z = a at *
     obtain ⟨x,z1⟩:=a
     simp only at ho hk g3
     have s1:l.length + 1 ≤ 140737488355328:=by omega
     have s2:(l.length + 1) * 56 ≤ 140737488355328:=by omega
     generalize ((j + 1:Nat):Int) = J at lt w1 ⊢
     simp [lt]
     refine ⟨_,_,.inl (by simpa [cargs] using ho),by simp,?_⟩
     by_cases hz:z1.2 = 0
     · rw [if_neg (by simp [hz])] at g3
       simp [hz,s1,s2,w1]
       refine ⟨j,l ++ [x],z1.1,z1.2,⟨by simp; omega,hk,g3⟩,by omega,?_⟩
       simp [h1,h2,hz]
       simpa [low] using hlow
     · rw [if_pos hz] at g3
       subst g3
       simp [hz,h1,h2]
set_option maxHeartbeats 2000000 in
set_option maxRecDepth 10000 in
theorem m144 (one:Sr → LKey × Sr) (f:FuncId) (fs cs:List AVal) (c1 c2:List AVal) (h1:LeCells 3 c1 c1) (h2:LeCells 3 c2 c2) (hlow:low 3 (.fn f fs cs) = true)
   (hone:∀ s,okSr s → CFun Tryz.prog f (fs ++ cs) [cellsSr s,c1,c2] (encY (one s).1) [cellsSr (one s).2,c1,c2]) (hok:∀ s,okSr s → okSr (one s).2) (s:Sr) (ok:okSr s) :
   CFun Tryz.prog 56 [.ptr 0 0,.fn f fs cs] [cellsSr s,c1,c2] (.sl 4 ((manyP one s).1.map encY) .sh) [cellsSr (manyP one s).2,c1,c2]:=by
 refine CFun.intro (tr:=[19]) (fz:=[]) (n:=25) (rs:=[.tmp 4]) Tryz.func56 rfl (by kernel_rfl) rfl rfl mixed (by kernel_rfl) (by simp) (by simp) ?_
 have hx:=next_ (H:=[cellsSr s,c1,c2]) (id:=0) rfl ok 1 (by omega)
 have k1:=nx_ok ok 1
 obtain ⟨n,hn,hn2⟩:=nx1_in ok
 unfold manyP
 generalize nx 1 s = a at *
 obtain ⟨v,s1⟩:=a
 simp only at hn k1 hx ⊢
 subst hn
 have w0:IntKind.i64.wrap (n:Int) = n:=wrap_in (by omega)
 simp only [Int.toNat_natCast]
 generalize hT:manyN one n [] s1 = T
 simp
 refine ⟨_,_,.inl (by simpa using hx),by simp,?_⟩
 simp [w0]
 refine LoopK.intro (tr:=[19]) mixed (by kernel_rfl) (fun q:Nat × List LKey × Sr=>[(0,.ptr 0 0),(1,.fn f fs cs),(5,.sl 4 (q.2.1.map encY) .own),(9,.int .i64 n),(10,.int .i64 ((n:Int) - q.1))]) (fun q=>[cellsSr q.2.2,c1,c2])
   (fun q=>q.1 + q.2.1.length = n ∧ okSr q.2.2 ∧ manyN one q.1 q.2.1 q.2.2 = T) (fun q=>q.1) (n,[],s1) ?_ ?_ ?_
 · exact ⟨by simp,k1,hT⟩
 · simp [h1,h2]
   simpa [low] using hlow
 · rintro ⟨j,l,z⟩ ⟨g1,g2,g3⟩
   simp only at g1 g2 g3
   cases j with
   | zero =>
     simp only [manyN] at g3
     subst g3
     simp [h1,h2]
   | succ j =>
     have lt:(n:Int) - ((j + 1:Nat):Int) < n:=by omega
     have w1:IntKind.i64.wrap ((n:Int) - ((j + 1:Nat):Int) + 1) = n - j:=by rw [wrap_in (by omega)]; omega
     have ho:=hone z g2
     have hk:=hok z g2
     simp only [manyN] at g3
     generalize one z = a at *
     obtain ⟨x,z1⟩:=a
     simp only at ho hk g3
     have s1:l.length + 1 ≤ 140737488355328:=by omega
     have s2:(l.length + 1) * 32 ≤ 140737488355328:=by omega
     generalize ((j + 1:Nat):Int) = J at lt w1 ⊢
     simp [lt]
     refine ⟨_,_,.inl (by simpa [cargs] using ho),by simp,?_⟩
     by_cases hz:z1.2 = 0
     · rw [if_neg (by simp [hz])] at g3
       simp [hz,s1,s2,w1]
       refine ⟨j,l ++ [x],z1.1,z1.2,⟨by simp; omega,hk,g3⟩,by omega,?_⟩
       simp [h1,h2,hz]
       simpa [low] using hlow
     · rw [if_pos hz] at g3
       subst g3
       simp [hz,h1,h2]
set_option maxHeartbeats 2000000 in
set_option maxRecDepth 10000 in
theorem m146 (one:Sr → Lsa × Sr) (f:FuncId) (fs cs:List AVal) (c1 c2:List AVal) (h1:LeCells 3 c1 c1) (h2:LeCells 3 c2 c2) (hlow:low 3 (.fn f fs cs) = true)
   (hone:∀ s,okSr s → CFun Tryz.prog f (fs ++ cs) [cellsSr s,c1,c2] (encA (one s).1) [cellsSr (one s).2,c1,c2]) (hok:∀ s,okSr s → okSr (one s).2) (s:Sr) (ok:okSr s) :
   CFun Tryz.prog 58 [.ptr 0 0,.fn f fs cs] [cellsSr s,c1,c2] (.sl 15 ((manyP one s).1.map encA) .sh) [cellsSr (manyP one s).2,c1,c2]:=by
 refine CFun.intro (tr:=[19]) (fz:=[]) (n:=25) (rs:=[.tmp 4]) Tryz.func58 rfl (by kernel_rfl) rfl rfl mixed (by kernel_rfl) (by simp) (by simp) ?_
 have hx:=next_ (H:=[cellsSr s,c1,c2]) (id:=0) rfl ok 1 (by omega)
 have k1:=nx_ok ok 1
 obtain ⟨n,hn,hn2⟩:=nx1_in ok
 unfold manyP
 generalize nx 1 s = a at *
 obtain ⟨v,s1⟩:=a
 simp only at hn k1 hx ⊢
 subst hn
 have w0:IntKind.i64.wrap (n:Int) = n:=wrap_in (by omega)
 simp only [Int.toNat_natCast]
 generalize hT:manyN one n [] s1 = T
 simp
 refine ⟨_,_,.inl (by simpa using hx),by simp,?_⟩
 simp [w0]
 refine LoopK.intro (tr:=[19]) mixed (by kernel_rfl) (fun q:Nat × List Lsa × Sr=>[(0,.ptr 0 0),(1,.fn f fs cs),(5,.sl 15 (q.2.1.map encA) .own),(9,.int .i64 n),(10,.int .i64 ((n:Int) - q.1))]) (fun q=>[cellsSr q.2.2,c1,c2])
   (fun q=>q.1 + q.2.1.length = n ∧ okSr q.2.2 ∧ manyN one q.1 q.2.1 q.2.2 = T) (fun q=>q.1) (n,[],s1) ?_ ?_ ?_
 · exact ⟨by simp,k1,hT⟩
 · simp [h1,h2]
   simpa [low] using hlow
 · rintro ⟨j,l,z⟩ ⟨g1,g2,g3⟩
   simp only at g1 g2 g3
   cases j with
   | zero =>
     simp only [manyN] at g3
     subst g3
     simp [h1,h2]
   | succ j =>
     have lt:(n:Int) - ((j + 1:Nat):Int) < n:=by omega
     have w1:IntKind.i64.wrap ((n:Int) - ((j + 1:Nat):Int) + 1) = n - j:=by rw [wrap_in (by omega)]; omega
     have ho:=hone z g2
     have hk:=hok z g2
     simp only [manyN] at g3
     generalize one z = a at *
     obtain ⟨x,z1⟩:=a
     simp only at ho hk g3
     have s1:l.length + 1 ≤ 140737488355328:=by omega
     have s2:(l.length + 1) * 136 ≤ 140737488355328:=by omega
     generalize ((j + 1:Nat):Int) = J at lt w1 ⊢
     simp [lt]
     refine ⟨_,_,.inl (by simpa [cargs] using ho),by simp,?_⟩
     by_cases hz:z1.2 = 0
     · rw [if_neg (by simp [hz])] at g3
       simp [hz,s1,s2,w1]
       refine ⟨j,l ++ [x],z1.1,z1.2,⟨by simp; omega,hk,g3⟩,by omega,?_⟩
       simp [h1,h2,hz]
       simpa [low] using hlow
     · rw [if_pos hz] at g3
       subst g3
       simp [hz,h1,h2]
end Go.Proofs.YtapgoboiljjecaaGreatDoor

namespace Go.Proofs.YtapgoboiljjecaaGreatDoor
open Go Go.Am
theorem cellsPk_le (p:Pkt) (n:Nat):LeCells n (cellsPk p) (cellsPk p):=by simp
theorem ptr_le:LeCells 3 [AVal.ptr 0 0] [AVal.ptr 0 0]:=by simp
theorem nxW_ok {s:Sr} (h:okSr s):okSr (nxW s).2:=nx_ok h 4
theorem kyP_ok {s:Sr} (h:okSr s):okSr (kyP s).2:=nx_ok (nx_ok (nx_ok (nx_ok h 1) 4) 1) 4
theorem many_words (p:Pkt) (s:Sr) (ok:okSr s):CFun Tryz.prog 52 [.ptr 0 0,.fn 53 [] [.ptr 2 0]] [cellsSr s,cellsPk p,[.ptr 0 0]] (.sl 1 ((manyP nxW s).1.map enc32) .sh) [cellsSr (manyP nxW s).2,cellsPk p,[.ptr 0 0]] :=
 m140 nxW 53 [] [.ptr 2 0] _ _ (cellsPk_le p 3) ptr_le rfl (fun s ok=>f141 s ok _ (cellsPk_le p 3)) (fun s ok=>nxW_ok ok) s ok
theorem many_heads (p:Pkt) (s:Sr) (ok:okSr s):CFun Tryz.prog 54 [.ptr 0 0,.fn 55 [.ptr 0 0] []] [cellsSr s,cellsPk p,[.ptr 0 0]] (.sl 7 ((manyP hdP s).1.map encH) .sh) [cellsSr (manyP hdP s).2,cellsPk p,[.ptr 0 0]] :=
 m142 hdP 55 [.ptr 0 0] [] _ _ (cellsPk_le p 3) ptr_le rfl (fun s ok=>(f143 s ok).at (H:=[cellsSr s,cellsPk p,[.ptr 0 0]]) (id:=0) rfl rfl rfl rfl rfl) (fun s ok=>hdP_ok ok) s ok
theorem many_keys (p:Pkt) (s:Sr) (ok:okSr s):CFun Tryz.prog 56 [.ptr 0 0,.fn 57 [] [.ptr 2 0]] [cellsSr s,cellsPk p,[.ptr 0 0]] (.sl 4 ((manyP kyP s).1.map encY) .sh) [cellsSr (manyP kyP s).2,cellsPk p,[.ptr 0 0]] :=
 m144 kyP 57 [] [.ptr 2 0] _ _ (cellsPk_le p 3) ptr_le rfl (fun s ok=>f145 s ok _ (cellsPk_le p 3)) (fun s ok=>kyP_ok ok) s ok
theorem many_lsas (p:Pkt) (s:Sr) (ok:okSr s):CFun Tryz.prog 58 [.ptr 0 0,.fn 59 [.ptr 0 0] []] [cellsSr s,cellsPk p,[.ptr 0 0]] (.sl 15 ((manyP lsP s).1.map encA) .sh) [cellsSr (manyP lsP s).2,cellsPk p,[.ptr 0 0]] :=
 m146 lsP 59 [.ptr 0 0] [] _ _ (cellsPk_le p 3) ptr_le rfl (fun s ok=>(f147 s ok).at (H:=[cellsSr s,cellsPk p,[.ptr 0 0]]) (id:=0) rfl rfl rfl rfl rfl) (fun s ok=>lsP_ok ok) s ok
end Go.Proofs.YtapgoboiljjecaaGreatDoor

namespace Go.Proofs.YtapgoboiljjecaaGreatDoor
open Go Go.Am
set_option maxHeartbeats 8000000 in
set_option maxRecDepth 10000 in
theorem f107_1 (p:Pkt) (h:p.Kind = 1) (s:Sr) (ok:okSr s):CFun Tryz.prog 18 [.ptr 0 0,.ptr 1 0] [cellsSr s,cellsPk p] (.tup []) [cellsSr (rdP p s).2,cellsPk (rdP p s).1]:=by
 refine CFun.intro (tr:=[1500027,1500030,1500033,1500036,1500049,1500052]) (fz:=[]) (n:=121) (rs:=[]) Tryz.func18 rfl (by kernel_rfl) rfl rfl mixed (by kernel_rfl) (by simp) (by simp) ?_
 have e:rdP p s = ({ p with E:=(helP s).1 },(helP s).2):=by unfold rdP; rw [if_pos h]
 have e2:helP s = (⟨I64 (nx 1 s).1,I64 (nx 2 (nx 1 s).2).1,I64 (nx 2 (nx 2 (nx 1 s).2).2).1,I64 (nx 1 (nx 2 (nx 2 (nx 1 s).2).2).2).1,W32 (nx 4 (nx 1 (nx 2 (nx 2 (nx 1 s).2).2).2).2).1,W32 (nx 4 (nx 4 (nx 1 (nx 2 (nx 2 (nx 1 s).2).2).2).2).2).1,
   (manyP nxW (nx 4 (nx 4 (nx 1 (nx 2 (nx 2 (nx 1 s).2).2).2).2).2).2).1⟩,(manyP nxW (nx 4 (nx 4 (nx 1 (nx 2 (nx 2 (nx 1 s).2).2).2).2).2).2).2):=rfl
 rw [e,e2]
 clear e e2
 have k1:=nx_ok ok 1
 have k2:=nx_ok k1 2
 have k3:=nx_ok k2 2
 have k4:=nx_ok k3 1
 have k5:=nx_ok k4 4
 have k6:=nx_ok k5 4
 have h1:=fun c=>next_ (H:=[cellsSr s,c,[.ptr 0 0]]) (id:=0) rfl ok 1 (by omega)
 have h2:=fun c=>next_ (H:=[cellsSr (nx 1 s).2,c,[.ptr 0 0]]) (id:=0) rfl k1 2 (by omega)
 have h3:=fun c=>next_ (H:=[cellsSr (nx 2 (nx 1 s).2).2,c,[.ptr 0 0]]) (id:=0) rfl k2 2 (by omega)
 have h4:=fun c=>next_ (H:=[cellsSr (nx 2 (nx 2 (nx 1 s).2).2).2,c,[.ptr 0 0]]) (id:=0) rfl k3 1 (by omega)
 have h5:=fun c=>next_ (H:=[cellsSr (nx 1 (nx 2 (nx 2 (nx 1 s).2).2).2).2,c,[.ptr 0 0]]) (id:=0) rfl k4 4 (by omega)
 have h6:=fun c=>next_ (H:=[cellsSr (nx 4 (nx 1 (nx 2 (nx 2 (nx 1 s).2).2).2).2).2,c,[.ptr 0 0]]) (id:=0) rfl k5 4 (by omega)
 have h7:=many_words { p with E:=⟨I64 (nx 1 s).1,I64 (nx 2 (nx 1 s).2).1,I64 (nx 2 (nx 2 (nx 1 s).2).2).1,I64 (nx 1 (nx 2 (nx 2 (nx 1 s).2).2).2).1,W32 (nx 4 (nx 1 (nx 2 (nx 2 (nx 1 s).2).2).2).2).1,W32 (nx 4 (nx 4 (nx 1 (nx 2 (nx 2 (nx 1 s).2).2).2).2).2).1,p.E.Seen⟩ } _ k6
 clear ok k1 k2 k3 k4 k5 k6
 generalize manyP nxW (nx 4 (nx 4 (nx 1 (nx 2 (nx 2 (nx 1 s).2).2).2).2).2).2 = a7 at *
 generalize nx 4 (nx 4 (nx 1 (nx 2 (nx 2 (nx 1 s).2).2).2).2).2 = a6 at *
 generalize nx 4 (nx 1 (nx 2 (nx 2 (nx 1 s).2).2).2).2 = a5 at *
 generalize nx 1 (nx 2 (nx 2 (nx 1 s).2).2).2 = a4 at *
 generalize nx 2 (nx 2 (nx 1 s).2).2 = a3 at *
 generalize nx 2 (nx 1 s).2 = a2 at *
 generalize nx 1 s = a1 at *
 simp [h]
 refine ⟨_,_,.inl (by simpa [h] using h1 _),by simp,?_⟩
 simp
 refine ⟨_,_,.inl (by simpa [h] using h2 _),by simp,?_⟩
 simp
 refine ⟨_,_,.inl (by simpa [h] using h3 _),by simp,?_⟩
 simp
 refine ⟨_,_,.inl (by simpa [h] using h4 _),by simp,?_⟩
 simp
 refine ⟨_,_,.inl (by simpa [h] using h5 _),by simp,?_⟩
 simp
 refine ⟨_,_,.inl (by simpa [h] using h6 _),by simp,?_⟩
 simp
 refine ⟨_,_,.inl (by simpa [h,I64,W32] using h7),by simp,?_⟩
 simp [h,I64,W32]
set_option maxHeartbeats 8000000 in
set_option maxRecDepth 10000 in
theorem f107_3 (p:Pkt) (h:p.Kind = 3) (s:Sr) (ok:okSr s):CFun Tryz.prog 18 [.ptr 0 0,.ptr 1 0] [cellsSr s,cellsPk p] (.tup []) [cellsSr (rdP p s).2,cellsPk (rdP p s).1]:=by
 refine CFun.intro (tr:=[1500027,1500030,1500033,1500036,1500049,1500052]) (fz:=[]) (n:=121) (rs:=[]) Tryz.func18 rfl (by kernel_rfl) rfl rfl mixed (by kernel_rfl) (by simp) (by simp) ?_
 have e:rdP p s = ({ p with Keys:=(manyP kyP s).1 },(manyP kyP s).2):=by unfold rdP; rw [if_neg (by omega),if_neg (by omega),if_pos h]
 rw [e]
 have h7:=many_keys p s ok
 generalize manyP kyP s = a7 at *
 simp [h]
 refine ⟨_,_,.inl (by simpa [h] using h7),by simp,?_⟩
 simp [h]
set_option maxHeartbeats 8000000 in
set_option maxRecDepth 10000 in
theorem f107_4 (p:Pkt) (h:p.Kind = 4) (s:Sr) (ok:okSr s):CFun Tryz.prog 18 [.ptr 0 0,.ptr 1 0] [cellsSr s,cellsPk p] (.tup []) [cellsSr (rdP p s).2,cellsPk (rdP p s).1]:=by
 refine CFun.intro (tr:=[1500027,1500030,1500033,1500036,1500049,1500052]) (fz:=[]) (n:=121) (rs:=[]) Tryz.func18 rfl (by kernel_rfl) rfl rfl mixed (by kernel_rfl) (by simp) (by simp) ?_
 have e:rdP p s = ({ p with Lsas:=(manyP lsP s).1 },(manyP lsP s).2):=by unfold rdP; rw [if_neg (by omega),if_neg (by omega),if_neg (by omega),if_pos h]
 rw [e]
 have h7:=many_lsas p s ok
 generalize manyP lsP s = a7 at *
 simp [h]
 refine ⟨_,_,.inl (by simpa [h] using h7),by simp,?_⟩
 simp [h]
set_option maxHeartbeats 8000000 in
set_option maxRecDepth 10000 in
theorem f107_5 (p:Pkt) (k1:¬ p.Kind = 1) (k2:¬ p.Kind = 2) (k3:¬ p.Kind = 3) (k4:¬ p.Kind = 4) (s:Sr) (ok:okSr s):CFun Tryz.prog 18 [.ptr 0 0,.ptr 1 0] [cellsSr s,cellsPk p] (.tup []) [cellsSr (rdP p s).2,cellsPk (rdP p s).1]:=by
 refine CFun.intro (tr:=[1500027,1500030,1500033,1500036,1500049,1500052]) (fz:=[]) (n:=121) (rs:=[]) Tryz.func18 rfl (by kernel_rfl) rfl rfl mixed (by kernel_rfl) (by simp) (by simp) ?_
 have e:rdP p s = ({ p with Heads:=(manyP hdP s).1 },(manyP hdP s).2):=by unfold rdP; rw [if_neg k1,if_neg k2,if_neg k3,if_neg k4]
 rw [e]
 have h7:=many_heads p s ok
 generalize manyP hdP s = a7 at *
 simp [k1,k2,k3,k4]
 refine ⟨_,_,.inl (by simpa using h7),by simp,?_⟩
 simp
end Go.Proofs.YtapgoboiljjecaaGreatDoor

namespace Go.Proofs.YtapgoboiljjecaaGreatDoor
open Go Go.Am
theorem flag_bits {n:Nat} (h:n < 256):(IntKind.u64.wrap ((n % 2 ^ IntKind.u64.bits &&& 1 % 2 ^ IntKind.u64.bits:Nat):Int) != 0) = (bits3 n).1 ∧ (IntKind.u64.wrap ((n % 2 ^ IntKind.u64.bits &&& 2 % 2 ^ IntKind.u64.bits:Nat):Int) != 0) = (bits3 n).2.1 ∧
   (IntKind.u64.wrap ((n % 2 ^ IntKind.u64.bits &&& 4 % 2 ^ IntKind.u64.bits:Nat):Int) != 0) = (bits3 n).2.2:=by
 have key:∀ m:Fin 256,((IntKind.u64.wrap ((m.1 % 2 ^ IntKind.u64.bits &&& 1 % 2 ^ IntKind.u64.bits:Nat):Int) != 0) = (bits3 m.1).1) ∧ ((IntKind.u64.wrap ((m.1 % 2 ^ IntKind.u64.bits &&& 2 % 2 ^ IntKind.u64.bits:Nat):Int) != 0) = (bits3 m.1).2.1) ∧
   ((IntKind.u64.wrap ((m.1 % 2 ^ IntKind.u64.bits &&& 4 % 2 ^ IntKind.u64.bits:Nat):Int) != 0) = (bits3 m.1).2.2):=by decide +kernel
 exact key ⟨n,h⟩
set_option maxHeartbeats 8000000 in
set_option maxRecDepth 10000 in
theorem f107_2 (p:Pkt) (h:p.Kind = 2) (s:Sr) (ok:okSr s):CFun Tryz.prog 18 [.ptr 0 0,.ptr 1 0] [cellsSr s,cellsPk p] (.tup []) [cellsSr (rdP p s).2,cellsPk (rdP p s).1]:=by
 refine CFun.intro (tr:=[1500027,1500030,1500033,1500036,1500049,1500052]) (fz:=[]) (n:=121) (rs:=[]) Tryz.func18 rfl (by kernel_rfl) rfl rfl mixed (by kernel_rfl) (by simp) (by simp) ?_
 have e:rdP p s = ({ p with Seq:=(dbP s).1.1,Init:=(dbP s).1.2.1.1,More:=(dbP s).1.2.1.2.1,Master:=(dbP s).1.2.1.2.2,Heads:=(dbP s).1.2.2 },(dbP s).2):=by unfold rdP; rw [if_neg (by omega),if_pos h]
 have e2:dbP s = ((I64 (nx 4 s).1,(flP (nx 4 s).2).1,(manyP hdP (flP (nx 4 s).2).2).1),(manyP hdP (flP (nx 4 s).2).2).2):=rfl
 rw [e,e2]
 clear e e2
 have k1:=nx_ok ok 4
 have k2:=nx_ok k1 1
 obtain ⟨n,hn,hn2⟩:=nx1_in k1
 have h1:=fun c=>next_ (H:=[cellsSr s,c,[.ptr 0 0]]) (id:=0) rfl ok 4 (by omega)
 have h2:=fun c=>next_ (H:=[cellsSr (nx 4 s).2,c,[.ptr 0 0]]) (id:=0) rfl k1 1 (by omega)
 unfold flP
 generalize nx 1 (nx 4 s).2 = a2 at *
 generalize nx 4 s = a1 at *
 obtain ⟨v,s2⟩:=a2
 simp only at hn k2 h2 ⊢
 subst hn
 obtain ⟨f1,f2,f3⟩:=flag_bits hn2
 clear ok k1
 generalize bits3 (n:Int) = fl at *
 obtain ⟨fi,fm,fs⟩:=fl
 simp only at f1 f2 f3
 by_cases h7:7 < n
 · have h7':(7:Int) < n:=by omega
   have h9:=many_heads { p with Seq:=I64 a1.fst,Init:=fi,More:=fm,Master:=fs } (s2.1,2) ⟨k2.1,k2.2⟩
   rw [if_pos h7']
   clear k2
   generalize manyP hdP (s2.1,2) = a9 at *
   simp [h]
   refine ⟨_,_,.inl (by simpa [h] using h1 _),by simp,?_⟩
   simp
   refine ⟨_,_,.inl (by simpa [h] using h2 _),by simp,?_⟩
   simp [f1,f2,f3,h7,h7']
   refine ⟨_,_,.inl (by simpa [h,I64] using h9),by simp,?_⟩
   simp [h,I64]
 · have h7':¬ (7:Int) < n:=by omega
   have h9:=many_heads { p with Seq:=I64 a1.fst,Init:=fi,More:=fm,Master:=fs } s2 k2
   rw [if_neg h7']
   clear k2
   generalize manyP hdP s2 = a9 at *
   simp [h]
   refine ⟨_,_,.inl (by simpa [h] using h1 _),by simp,?_⟩
   simp
   refine ⟨_,_,.inl (by simpa [h] using h2 _),by simp,?_⟩
   simp [f1,f2,f3,h7,h7']
   refine ⟨_,_,.inl (by simpa [h,I64] using h9),by simp,?_⟩
   simp [h,I64]
end Go.Proofs.YtapgoboiljjecaaGreatDoor

namespace Go.Proofs.YtapgoboiljjecaaGreatDoor
open Go Go.Am
theorem blank_set {b:List Int} (h:18 ≤ b.length):(b.set 16 0).set 17 0 = blankP b:=by
 apply ext_getD
 · rw [blank_len h]; simp
 · intro i _
   rw [set_getD _ _ _ _ (by simp; omega),set_getD _ _ _ _ (by omega),blank_getD h]
   by_cases e1:i = 17
   · simp [e1]
   · by_cases e2:i = 16
     · simp [e2]
     · simp [e1,e2]
theorem get_getD {b:List Int} {i:Nat} (h:i < b.length):b[i]? = some (b.getD i 0):=by
 simp [List.getD_eq_getElem?_getD,h]
set_option maxHeartbeats 4000000 in
set_option maxRecDepth 10000 in
theorem f105 (b:List Int) (hb:isB b) (hlen:b.length ≤ 140737488355327):CFun Tryz.prog 16 [encBs b] [] (.int .i64 (frontP b)) []:=by
 refine CFun.intro (tr:=[]) (fz:=[]) (n:=57) (rs:=[.tmp 2]) Tryz.func16 rfl (by kernel_rfl) rfl rfl mixed (by kernel_rfl) (by simp) (by simp) ?_
 obtain ⟨n,hn⟩:∃ n,b.length = n:=⟨_,rfl⟩
 by_cases h18:n < 18
 · have h18':(n:Int) < 18:=by omega
   unfold frontP
   simp [hn,h18,h18']
 have h18':¬ (n:Int) < 18:=by omega
 have h1:=fun H=>(c93 b hb (by omega) 2 2 (by omega) (by omega)).up' H rfl rfl
 have h2:=fun H=>(c93 b hb (by omega) 16 2 (by omega) (by omega)).up' H rfl rfl
 rw [if_pos (by omega),decide_eq_true (by omega)] at h1 h2
 have h3:=f139 b n hn (by omega) (by omega)
 have hbl:=blank_len (b:=b) (by omega)
 have h4:=fun H hid=>lend71 (H:=H) (id:=0) (cap:=none) (b:=blankP b) hid (hbl.trans hn) (by omega) (by omega) (isB_blank hb)
 have h5:=fun H=>(f51 (b.getD 1 0) 1 5).up' H rfl rfl
 have n2:=numAt_in hb 2 2
 have n16:=numAt_in hb 16 2
 have g0:=get_getD (b:=b) (i:=0) (by omega)
 have g1:=get_getD (b:=b) (i:=1) (by omega)
 have b1:=getD_in hb 1
 have w1:IntKind.i64.wrap (b.getD 1 0) = b.getD 1 0:=wrap_in (by omega)
 have w2:IntKind.i64.wrap (numAt b 2 2) = numAt b 2 2:=wrap_in (by omega)
 have w3:IntKind.i64.wrap (numAt b 16 2) = numAt b 16 2:=wrap_in (by omega)
 have hs:((b.map enc8).set 16 (.int .u8 0)).set 17 (.int .u8 0) = (blankP b).map enc8:=by
   rw [← blank_set (by omega),List.map_set,List.map_set]; rfl
 have hle:LeCells 1 ((blankP b).map enc8) ((blankP b).map enc8):=treeCells_le 1 (by rw [List.all_map]; simp [AVal.tree])
 have c16:16 < n:=by omega
 have c17:17 < n:=by omega
 unfold frontP
 generalize blankP b = B at *
 generalize b.getD 0 0 = x0 at *
 generalize b.getD 1 0 = x1 at *
 generalize numAt b 2 2 = v2 at *
 generalize numAt b 16 2 = v16 at *
 have c16':(16:Int) < n:=by omega
 have c17':(17:Int) < n:=by omega
 obtain ⟨_,ga0⟩:=List.getElem?_eq_some_iff.1 g0
 obtain ⟨_,ga1⟩:=List.getElem?_eq_some_iff.1 g1
 have d1:17 ≤ n:=by omega
 have d2:18 ≤ n:=by omega
 have d3:2 ≤ n:=by omega
 have d4:0 < n:=by omega
 have d5:1 < n:=by omega
 have d5':(1:Int) < n:=by omega
 have d4':(0:Int) < n:=by omega
 have d6:1 ≤ n:=by omega
 simp [hn,h18,h18']
 refine ⟨_,_,.inl (by simpa using h1 _),by simp,?_⟩
 simp
 refine ⟨_,_,.inl (by simpa using h2 _),by simp,?_⟩
 simp
 refine ⟨_,_,.inl (by simpa using h3),by simp,?_⟩
 by_cases e0:x0 = 1
 case neg =>
   simp [c16,c17,c16',c17',hn,hs,g0,g1,ga0,ga1,w2,d1,d2,d3,d4,d5,d5',d4',d6,e0]
 by_cases e1:(n:Int) < v2
 · simp [c16,c17,c16',c17',hn,hs,g0,g1,ga0,ga1,w2,d1,d2,d3,d4,d5,d5',d4',d6,e0,e1]
 by_cases e2:v2 < (n:Int)
 · simp [c16,c17,c16',c17',hn,hs,g0,g1,ga0,ga1,w2,d1,d2,d3,d4,d5,d5',d4',d6,e0,e1,e2]
 simp [c16,c17,c16',c17',hn,hs,g0,g1,ga0,ga1,w2,d1,d2,d3,d4,d5,d5',d4',d6,e0,e1,e2]
 refine ⟨_,_,.inl (by simpa using h4 _ rfl),by simp,?_⟩
 by_cases e3:v16 = inet B
 case neg=>simp [w3,e3]
 subst e3
 simp [w3,hn,g1,ga1,w1,d1,d2,d3,d4,d5,d5',d4',d6]
 refine ⟨_,_,.inl (by simpa using h5 _),by simp,?_⟩
 generalize inR x1 1 5 = r
 cases r <;> simp
theorem numAt_drop (b:List Int) (m at_:Nat):∀ n,numAt (b.drop m) at_ n = numAt b (m + at_) n
 | 0=>rfl
 | n + 1=>by
   have:(b.drop m).getD (at_ + n) 0 = b.getD (m + at_ + n) 0:=by
     simp only [List.getD_eq_getElem?_getD,List.getElem?_drop]
     rw [show m + (at_ + n) = m + at_ + n by omega]
   simp only [numAt,numAt_drop b m at_ n,this]
theorem nx_at {b:List Int} {m n:Nat} (h:m + n ≤ b.length):nx n (b.drop m,0) = (numAt b m n,(b.drop (m + n),0)):=by
 unfold nx
 simp only [ne_eq,not_true_eq_false,if_false,List.length_drop]
 rw [if_pos (by omega),numAt_drop,List.drop_drop]
 rfl
theorem rdP_ok {k r a d:Int} {b:List Int} (hb:isB b) (h:(rdP (pkA k r a d) (b,0)).2.2 = 0):okPk (rdP (pkA k r a d) (b,0)).1 ∧ (inW r ∧ inW a ∧ inW d → okPq (rdP (pkA k r a d) (b,0)).1):=by
 have e:(pkA k r a d).Kind = k:=rfl
 have i0:inW 0:=inW_0
 unfold rdP at h ⊢
 by_cases h1:k = 1
 · rw [if_pos (by rw [e]; exact h1)] at h ⊢
   obtain ⟨g1,g2,g3,g4,g5,g6,g7,g8⟩:=(helP_prs.back b hb h).2
   exact ⟨⟨by simp only; omega,by simp [pkA,pkt0],by simp [pkA,pkt0],by simp [pkA,pkt0],fun x hx=>(g8 x hx).1,by simp [pkA,pkt0],by simp [pkA,pkt0]⟩,
     fun ⟨q1,q2,q3⟩=>⟨q1,q2,q3,g5,g6,g8,by simp [pkA,pkt0],by simp [pkA,pkt0],by simp [pkA,pkt0]⟩⟩
 rw [if_neg (by rw [e]; exact h1)] at h ⊢
 by_cases h2:k = 2
 · rw [if_pos (by rw [e]; exact h2)] at h ⊢
   obtain ⟨g1,_,g3,g4⟩:=(dbP_prs.back b hb h).2
   exact ⟨⟨by simp [pkA,pkt0,hel0],by simp [pkA,pkt0],by simp [pkA,pkt0],by simp only; omega,by simp [pkA,pkt0,hel0],fun x hx=>(g4 x hx).2.1,by simp [pkA,pkt0]⟩,
     fun ⟨q1,q2,q3⟩=>⟨q1,q2,q3,i0,i0,by simp [pkA,pkt0,hel0],fun x hx=>(g4 x hx).2,by simp [pkA,pkt0],by simp [pkA,pkt0]⟩⟩
 rw [if_neg (by rw [e]; exact h2)] at h ⊢
 by_cases h3:k = 3
 · rw [if_pos (by rw [e]; exact h3)] at h ⊢
   obtain ⟨g3,g4⟩:=(kyP_prs.many.back b hb h).2
   exact ⟨⟨by simp [pkA,pkt0,hel0],by simp only; omega,by simp [pkA,pkt0],by simp [pkA,pkt0],by simp [pkA,pkt0,hel0],by simp [pkA,pkt0],by simp [pkA,pkt0]⟩,
     fun ⟨q1,q2,q3⟩=>⟨q1,q2,q3,i0,i0,by simp [pkA,pkt0,hel0],by simp [pkA,pkt0],fun x hx=>⟨(g4 x hx).2.1,(g4 x hx).2.2.2⟩,by simp [pkA,pkt0]⟩⟩
 rw [if_neg (by rw [e]; exact h3)] at h ⊢
 by_cases h4:k = 4
 · rw [if_pos (by rw [e]; exact h4)] at h ⊢
   obtain ⟨g3,g4⟩:=(lsP_prs.many.back b hb h).2
   exact ⟨⟨by simp [pkA,pkt0,hel0],by simp [pkA,pkt0],by simp only; omega,by simp [pkA,pkt0],by simp [pkA,pkt0,hel0],by simp [pkA,pkt0],fun x hx=>(g4 x hx).1⟩,
     fun ⟨q1,q2,q3⟩=>⟨q1,q2,q3,i0,i0,by simp [pkA,pkt0,hel0],by simp [pkA,pkt0],by simp [pkA,pkt0],fun x hx=>(g4 x hx).1⟩⟩
 rw [if_neg (by rw [e]; exact h4)] at h ⊢
 obtain ⟨g3,g4⟩:=(hdP_prs.many.back b hb h).2
 exact ⟨⟨by simp [pkA,pkt0,hel0],by simp [pkA,pkt0],by simp [pkA,pkt0],by simp only; omega,by simp [pkA,pkt0,hel0],fun x hx=>(g4 x hx).2.1,by simp [pkA,pkt0]⟩,
   fun ⟨q1,q2,q3⟩=>⟨q1,q2,q3,i0,i0,by simp [pkA,pkt0,hel0],fun x hx=>(g4 x hx).2,by simp [pkA,pkt0],by simp [pkA,pkt0]⟩⟩
end Go.Proofs.YtapgoboiljjecaaGreatDoor

namespace Go.Proofs.YtapgoboiljjecaaGreatDoor
open Go Go.Am
theorem less0 {P:Program} {f:FuncId} {args:List AVal} {H0 H:List (List AVal)} {x:AVal} {H':List (List AVal)} (h:CFun P f args H0 x H') (hl:H0.length = H.length) (hb:LeBoxes H0.length H H0):CFun P f args H x H':=by
 refine ⟨h.1,fun G w cargs hs h1 h2 hz hr=>?_⟩
 have hs0:SR G H0 w:=hs.weaken (s:=⟨fun _=>.undef,H⟩) (s':=⟨fun _=>.undef,H0⟩) (LeBoxes_st hb)
 have:=h.2 G w cargs hs0 h1 h2 hz (by rw [hl]; exact hr)
 refine this.mono ?_
 rintro e w' ⟨v,G',rfl,g1,g2,g3,g4,g5,g6⟩
 rw [hl] at g1 g6
 exact ⟨v,G',rfl,g1,g2,g3,g4,g5,g6⟩
def zPk:List AVal:=[.int .i64 0,.int .u32 0,.int .u32 0,.int .u32 0,.int .i64 0,.int .i64 0,.int .i64 0,.int .i64 0,.int .u32 0,.int .u32 0,.sl 0 [] .full,.int .i64 0,.bool false,.bool false,.bool false,.sl 0 [] .full,.sl 0 [] .full,.sl 0 [] .full]
theorem next_Z {H:List (List AVal)} {id:Nat} {s:Sr} (hid:H[id]? = some (cellsSr s)) (ok:okSr s) (n:Nat) (hn:n ≤ 8) (Z:List (List AVal)) :
   CFun Tryz.prog 17 [.ptr id 0,.int .i64 n] (H ++ Z) (.int .u64 (nx n s).1) (H.set id (cellsSr (nx n s).2) ++ Z):=by
 have hl:=(List.getElem?_eq_some_iff.1 hid).1
 have h:=next_ (H:=H ++ Z) (id:=id) (by rw [List.getElem?_append_left hl]; exact hid) ok n hn
 rwa [List.set_append_left _ _ hl] at h
theorem rdP_pkt (p:Pkt) (s:Sr) (ok:okSr s):CFun Tryz.prog 18 [.ptr 0 0,.ptr 1 0] [cellsSr s,cellsPk p] (.tup []) [cellsSr (rdP p s).2,cellsPk (rdP p s).1]:=by
 by_cases h1:p.Kind = 1
 · exact f107_1 p h1 s ok
 by_cases h2:p.Kind = 2
 · exact f107_2 p h2 s ok
 by_cases h3:p.Kind = 3
 · exact f107_3 p h3 s ok
 by_cases h4:p.Kind = 4
 · exact f107_4 p h4 s ok
 · exact f107_5 p h1 h2 h3 h4 s ok
theorem rdP_at (c0:List AVal) (p:Pkt) (s:Sr) (ok:okSr s):CFun Tryz.prog 18 [.ptr 1 0,.ptr 2 0] [c0,cellsSr s,cellsPk p] (.tup []) [c0,cellsSr (rdP p s).2,cellsPk (rdP p s).1]:=by
 have h:=(rdP_pkt p s ok).lift (fun i=>i + 1) (H:=[c0,cellsSr s,cellsPk p]) (H':=[c0,cellsSr (rdP p s).2,cellsPk (rdP p s).1]) (by first | (simp; done) | (simp; intros; omega)) (by first | (simp; done) | (simp; intros; omega)) (by
   intro i cs hi
   match i,hi with
   | 0,hi=>simp at hi; subst hi; simp [ren0,low0]
   | 1,hi=>simp at hi; subst hi; simp [ren0,low0]) (by simp [low,low0]) (by simp) (by
   intro i cs hi
   match i,hi with
   | 0,hi=>simp at hi; subst hi; simp [ren0,low0,grow]
   | 1,hi=>simp at hi; subst hi; simp [ren0,low0,grow]) (by
   intro j hj hne
   match j,hj with
   | 0,_=>rfl
   | 1,_=>exact (hne 0 (by simp) rfl).elim
   | 2,_=>exact (hne 1 (by simp) rfl).elim) rfl
 simpa [ren,ren0] using h
set_option maxHeartbeats 8000000 in
set_option maxRecDepth 10000 in
theorem f50 (b:List Int) (hb:isB b) (hlen:b.length ≤ 140737488355327):CFun Tryz.prog 5 [encBs b] [] (.tup [encPk (decP b).1,.int .i64 (decP b).2]) []:=by
 refine CFun.intro (tr:=[2500023,2500026,2500029,900004000023,900001000042,900002000042,1500042]) (fz:=[]) (n:=62) (rs:=[.cell 2 33,.tmp 3]) Tryz.func5 rfl (by kernel_rfl) rfl rfl mixed (by kernel_rfl) (by simp) (by simp) ?_
 have h1:=fun H=>(f105 b hb hlen).up' H rfl rfl
 unfold decP
 by_cases hf:frontP b = 0
 case neg =>
   simp
   refine ⟨_,_,.inl (by simpa using h1 _),by simp,?_⟩
   simp [hf,pkt0,hel0]
 obtain ⟨f1,f2,f3,f4,f5⟩:=frontP_ok hf
 rw [if_neg (by simp [hf])]
 obtain ⟨n,hn⟩:∃ n,b.length = n:=⟨_,rfl⟩
 have ok0:∀ m,okSr (b.drop m,0):=fun m=>⟨isB_drop hb m,by simp only [List.length_drop]; omega⟩
 have n1:=nx_at (b:=b) (m:=4) (n:=4) (by omega)
 have n2:=nx_at (b:=b) (m:=8) (n:=4) (by omega)
 have n3:=nx_at (b:=b) (m:=12) (n:=4) (by omega)
 have n4:=nx_at (b:=b) (m:=16) (n:=2) (by omega)
 have g1:=get_getD (b:=b) (i:=1) (by omega)
 have w1:IntKind.i64.wrap (b.getD 1 0) = b.getD 1 0:=wrap_in (by omega)
 have c1:=fun c0 Z=>next_Z (H:=[c0,cellsSr (b.drop 4,0)]) (id:=1) rfl (ok0 4) 4 (by omega) Z
 have c2:=fun c0 Z=>next_Z (H:=[c0,cellsSr (b.drop 8,0)]) (id:=1) rfl (ok0 8) 4 (by omega) Z
 have c3:=fun c0 Z=>next_Z (H:=[c0,cellsSr (b.drop 12,0)]) (id:=1) rfl (ok0 12) 4 (by omega) Z
 have c4:=fun c0 c2=>next_ (H:=[c0,cellsSr (b.drop 16,0),c2]) (id:=1) rfl (ok0 16) 2 (by omega)
 rw [n1] at c1
 rw [n2] at c2
 rw [n3] at c3
 rw [n4] at c4
 have hr:=fun c0=>rdP_at c0 (pkA (b.getD 1 0) (W32 (numAt b 4 4)) (W32 (numAt b 8 4)) (W32 (numAt b 12 4))) (b.drop 18,0) (ok0 18)
 have hchk:(readP b).2.2 = 0 → ∀ H,CFun Tryz.prog 19 [encPk (readP b).1] H (.int .i64 (chkP (readP b).1)) H:=fun e H=>(f16 _ (rdP_ok (isB_drop hb 18) e).1).up' H rfl rfl
 have he:readP b = rdP (pkA (b.getD 1 0) (W32 (numAt b 4 4)) (W32 (numAt b 8 4)) (W32 (numAt b 12 4))) (b.drop 18,0):=rfl
 rw [← he] at hr
 generalize readP b = q at *
 obtain ⟨p,r,e⟩:=q
 clear he n1 n2 n3 n4 ok0 f2 f3 f4
 simp only at hr hchk ⊢
 generalize b.getD 1 0 = v1 at *
 generalize numAt b 4 4 = a1 at *
 generalize numAt b 8 4 = a2 at *
 generalize numAt b 12 4 = a3 at *
 have htk:(b.map enc8).take n = b.map enc8:=List.take_of_length_le (by simp [hn])
 have h4n:4 ≤ n:=by omega
 have h4n':(4:Int) ≤ n:=by omega
 simp
 refine ⟨_,_,.inl (by simpa using h1 _),by simp,?_⟩
 simp [hf,hn,h4n,h4n',htk,g1,w1]
 refine ⟨_,[_,[.sl 1 ((b.map enc8).drop 8) .sh,.int .i64 0]],⟨rfl,fun Z=>by simpa using c1 _ Z⟩,by simp,?_⟩
 simp
 refine ⟨_,[_,[.sl 1 ((b.map enc8).drop 12) .sh,.int .i64 0]],⟨rfl,fun Z=>by simpa using c2 _ Z⟩,by simp,?_⟩
 simp
 refine ⟨_,[_,[.sl 1 ((b.map enc8).drop 16) .sh,.int .i64 0]],⟨rfl,fun Z=>by simpa using c3 _ Z⟩,by simp,?_⟩
 simp
 refine ⟨_,_,.inl (by simpa using c4 _ _),by simp,?_⟩
 simp
 refine ⟨_,_,.inl (less0 (hr zPk) rfl (by simp [pkA,pkt0,hel0,W32,zPk,All2,LeC])),by simp [zPk],?_⟩
 simp only [zPk]
 by_cases he:e = 0
 case neg =>
   simp [he,pkt0,hel0]
 by_cases hr0:r = []
 case neg =>
   have hr1:0 < r.length:=List.length_pos_iff.2 hr0
   simp [he,hr0,hr1,pkt0,hel0]
 have h16:=hchk he
 simp [he,hr0]
 refine ⟨_,_,.inl (by simpa using h16 _),by simp,?_⟩
 by_cases hc:chkP p = 0
 · simp [hc]
 · simp [hc,pkt0,hel0]
end Go.Proofs.YtapgoboiljjecaaGreatDoor

namespace Go.Proofs.YtapgoboiljjecaaGreatDoor
open Go Go.Am
end Go.Proofs.YtapgoboiljjecaaGreatDoor
