/- The reference's Route, by the program: the rounds. -/
import Derived.Test.YtpmmnnaaoideeaaGreatGTC45
import Derived.Test.YtpmmnnaaoideeaaGreatGT1
import Derived.Test.YtpmmnnaaoideeaaGreatAmAF
import Derived.Test.YtpmmnnaaoideeaaGreatGT51
import Derived.Test.YtpmmnnaaoideeaaGreatGTL
import Derived.Test.YtpmmnnaaoideeaaGreatGT12
import Derived.Test.YtpmmnnaaoideeaaGreatGT16
import Derived.Test.YtpmmnnaaoideeaaGreatGT20
set_option linter.unusedSimpArgs false
set_option linter.unusedVariables false
namespace Go.Proofs.YtpmmnnaaoideeaaGreat
open Go Go.Am Go.Wk
def slO (l:List Lnk) (N:Nat) (to:Int) (A:List Wlk) (b:Option Wlk) (h:Nat):List (Nat × AVal) :=
 [(0,.int .i64 N),(1,.sl 13 (l.map encL) .sh),(3,.int .i64 to),(9,.ptr 0 0),(15,.sl 3 (A.map encW) .sh),(16,.ptr 2 0),(17,.bool b.isSome),(18,.int .i64 h)]
set_option maxHeartbeats 16000000 in
set_option maxRecDepth 10000 in
theorem c16o (l:List Lnk) (m:Nat) (hm:l.length = m) (hm2:m ≤ 1024) (c:Con) (p:Nat) (hp:c.Avoid.length = p) (hp2:p < 9223372036854775807) (N:Nat) (hN2:N ≤ 128) (t:Nat) (ht:c.Thru.length = t) (ht3:t ≤ 64) (hlk:∀ x ∈ l,okLk N x) (to:Int)
   (A0:List Wlk) (hA0:okNx N t 0 A0) (sz:Nat) (hsz:N * (t + 1) = sz)
   (Q:APost) (hQ:∀ (u:Nat → AVal) (b:Option Wlk),holds u [(16,.ptr 2 0),(17,.bool b.isSome)] → b = loopR l c to sz (sz + 1) 0 A0 none → Q (.exit 0) ⟨u,[cellsC c,[],bC b]⟩) (body:Code) (hb:loopIn (Tryz.f49.body.getD .skip) = body) (s:ASt)
   (hs:Le 0 s (slO l N to A0 none 0) [cellsC c,[],bC none]):LoopK Tryz.prog 166 0 body Q s:=by
 unfold Tryz.f49 at hb
 simp only [loopIn,Option.getD_some,firstLoop,Option.orElse_none,Option.orElse_some] at hb
 subst hb
 have hble:=fun q b=>bC_le q b
 have hrle:=fun q l=>eWe.rowLe q l
 have hs1:sz ≤ 128 * 65:=by rw [← hsz]; exact Nat.mul_le_mul hN2 (by omega)
 have w1:IntKind.i64.wrap ((t:Int) + 1) = (t:Int) + 1:=wrap_in (by omega)
 have w2:IntKind.i64.wrap ((N:Int) * ((t:Int) + 1)) = (sz:Int):=by
   have:(N:Int) * ((t:Int) + 1) = (sz:Int):=by rw [← hsz]; simp
   rw [this]; exact wrap_in (by omega)
 refine LoopK.intro (tr:=[30000019000007]) mixed (by kernel_rfl)
   (fun s:OS=>slO l N to s.A s.b s.h) (fun s=>[cellsC c,[],bC s.b])
   (fun s=>s.h ≤ sz ∧ okNx N t s.h s.A ∧ loopR l c to sz (sz + 1) 0 A0 none = loopR l c to sz (sz + 1 - s.h) s.h s.A s.b) (fun s=>sz - s.h) ⟨0,A0,none⟩ ?_ hs ?_
 · exact ⟨Nat.zero_le _,hA0,rfl⟩
 · clear hs
   rintro ⟨h,A,b⟩ ⟨i1,i2,i3⟩
   simp only at i1 i2 i3
   have stop:¬ (A ≠ [] ∧ h < sz ∧ (c.Hops = 0 ∨ (h:Int) ≤ c.Hops)) → ∀ (u:Nat → AVal),holds u [(16,.ptr 2 0),(17,.bool b.isSome)] → Q (.exit 0) ⟨u,[cellsC c,[],bC b]⟩:=fun hc u hu=>hQ u b hu (by rw [i3,loopR_stop hc])
   by_cases hc:A ≠ [] ∧ h < sz ∧ (c.Hops = 0 ∨ (h:Int) ≤ c.Hops)
   case neg =>
     have st:=stop hc
     clear stop hQ
     simp only [holds,List.mem_cons,List.not_mem_nil,or_false,forall_eq_or_imp,forall_eq] at st
     simp only [slO]
     by_cases g1:0 < A.length
     case neg =>
       simp [g1,ht,w1,w2]
       exact st _ ⟨by simp,by simp⟩
     by_cases g2:h < sz
     case neg =>
       simp [g1,g2,ht,w1,w2]
       exact st _ ⟨by simp,by simp⟩
     have g0:A ≠ []:=by rintro rfl; simp at g1
     have g3:¬ c.Hops = 0:=fun e=>hc ⟨g0,g2,.inl e⟩
     have g4:¬ (h:Int) ≤ c.Hops:=fun e=>hc ⟨g0,g2,.inr e⟩
     simp [g1,g2,g3,g4,ht,w1,w2]
     exact st _ ⟨by simp,by simp⟩
   clear stop hQ
   obtain ⟨g0,g2,g3⟩:=hc
   have g1:0 < A.length:=List.length_pos_iff.2 g0
   have hlen:=i2.length
   rw [loopR_go ⟨g0,g2,g3⟩,ht] at i3
   have w3:IntKind.i64.wrap ((h:Int) + 1) = (h:Int) + 1:=wrap_in (by omega)
   have cm:=fun Q' hQ' s' hs'=>c16m l m hm hm2 c p hp hp2 N hN2 t ht ht3 hlk to h (by omega) A A.length rfl (by omega) i2.w b Q' hQ' _ rfl s' hs'
   simp only [slO]
   by_cases g4:c.Hops = 0
   · simp [g1,g2,g4,ht,w1,w2]
     refine cm _ (fun u nx loc b' hu hn hb' ho hl=>?_) _ ?_
     · rw [← hb',← hn] at i3
       simp only [holds,slM,List.mem_cons,List.not_mem_nil,or_false,forall_eq_or_imp,forall_eq] at hu
       obtain ⟨u0,u1,u2,u3,u4,u5,u6,u7⟩:=hu
       rcases hl with ⟨rfl,hnil⟩ | ⟨rfl,hnil⟩
       · simp [HM,nxV,u0,u1,u2,u3,u4,u5,u6,u7,w3]
         exact ⟨⟨h + 1,nx,b'⟩,⟨by simp only; omega,ho,i3⟩,by simp only; omega,by simp [hble,hnil,g4]⟩
       · have hnl:0 < nx.length:=List.length_pos_iff.2 hnil
         have k1:=eWe.rowLen nx
         have k2:(rowC ceW nx).take (nx.length * 3) = rowC ceW nx:=List.take_of_length_le (by omega)
         have k3:∀ x ∈ rowC ceW nx,x.tree = true:=by simpa using eWe.rowTree nx
         have k4:=eWe.chunk nx nx.length rfl
         simp [HM,nxV,u0,u1,u2,u3,u4,u5,u6,u7,w3,k1,k2,k4,hnl]
         rw [if_pos k3]
         simp [u0,u1,u2,u3,u4,u5,u6,u7,w3]
         exact ⟨⟨h + 1,nx,b'⟩,⟨by simp only; omega,ho,i3⟩,by simp only; omega,by simp [hble,hnil,g4]⟩
     · simp [slM,HM,nxV,hble,g4]
   · have g5:(h:Int) ≤ c.Hops:=g3.resolve_left g4
     simp [g1,g2,g4,g5,ht,w1,w2]
     refine cm _ (fun u nx loc b' hu hn hb' ho hl=>?_) _ ?_
     · rw [← hb',← hn] at i3
       simp only [holds,slM,List.mem_cons,List.not_mem_nil,or_false,forall_eq_or_imp,forall_eq] at hu
       obtain ⟨u0,u1,u2,u3,u4,u5,u6,u7⟩:=hu
       rcases hl with ⟨rfl,hnil⟩ | ⟨rfl,hnil⟩
       · simp [HM,nxV,u0,u1,u2,u3,u4,u5,u6,u7,w3]
         exact ⟨⟨h + 1,nx,b'⟩,⟨by simp only; omega,ho,i3⟩,by simp only; omega,by simp [hble,hnil]⟩
       · have hnl:0 < nx.length:=List.length_pos_iff.2 hnil
         have k1:=eWe.rowLen nx
         have k2:(rowC ceW nx).take (nx.length * 3) = rowC ceW nx:=List.take_of_length_le (by omega)
         have k3:∀ x ∈ rowC ceW nx,x.tree = true:=by simpa using eWe.rowTree nx
         have k4:=eWe.chunk nx nx.length rfl
         simp [HM,nxV,u0,u1,u2,u3,u4,u5,u6,u7,w3,k1,k2,k4,hnl]
         rw [if_pos k3]
         simp [u0,u1,u2,u3,u4,u5,u6,u7,w3]
         exact ⟨⟨h + 1,nx,b'⟩,⟨by simp only; omega,ho,i3⟩,by simp only; omega,by simp [hble,hnil]⟩
     · simp [slM,HM,nxV,hble]
end Go.Proofs.YtpmmnnaaoideeaaGreat

/- The reference's Route, by the program. -/
namespace Go.Proofs.YtpmmnnaaoideeaaGreat
open Go Go.Am Go.Wk
theorem bestR_mem {to:Int} {t:Nat}:∀ {A:List Wlk} {b:Option Wlk} {w:Wlk},bestR to t b A = some w → b = some w ∨ w ∈ A:=by
 intro A
 induction A with
 | nil=>intro b w h; exact .inl h
 | cons a A ih =>
   intro b w h
   rcases ih (b:=bestS to t b a) h with h | h
   · unfold bestS at h
     split at h
     · injection h with h; subst h; exact .inr (by simp)
     · exact .inl h
   · exact .inr (List.mem_cons_of_mem _ h)
theorem loopR_len {l:List Lnk} {n:Nat} {c:Con} (hls:∀ x ∈ l,okLk n x) {to:Int} {sz:Nat}:∀ (f h:Nat) (A:List Wlk) (b:Option Wlk),okNx n c.Thru.length h A → (∀ w,b = some w → w.N.length ≤ sz) → ∀ w,loopR l c to sz f h A b = some w → w.N.length ≤ sz:=by
 intro f
 induction f with
 | zero=>intro h A b _ hb w hw; exact hb w hw
 | succ f ih =>
   intro h A b ok hb w hw
   simp only [loopR] at hw
   split at hw
   · rename_i hc
     refine ih _ _ _ (nextR_ok rfl hls ok.w) (fun v hv=>?_) w hw
     rcases bestR_mem hv with h1 | h1
     · exact hb v h1
     · rw [(ok.w v h1).len]; omega
   · exact hb w hw
set_option maxHeartbeats 8000000 in
set_option maxRecDepth 10000 in
theorem c16 (l:List Lnk) (m:Nat) (hm:l.length = m) (hm2:m < 9223372036854775807) (c:Con) (p q:Nat) (hp:c.Avoid.length = p) (hq:c.Thru.length = q) (hp2:p < 9223372036854775807) (hq2:q < 9223372036854775807) (n fr to:Int) :
   CFun Tryz.prog 49 [.int .i64 n,.sl 13 (l.map encL) .sh,.int .i64 fr,.int .i64 to,encC c] [] (encRt (refN n l fr to c)) []:=by
 refine CFun.intro (tr:=[30000019000007]) (fz:=[]) (n:=166) (rs:=[.tmp 10,.tmp 11,.tmp 12]) Tryz.func49 rfl (by kernel_rfl) rfl rfl mixed (by kernel_rfl) (by simp) (by simp) ?_
 have h13:=fun H=>(c13 l m hm hm2 c n p q hp hq hp2 hq2).up' H (by simp [noid,noid0]) rfl
 have h25:=fun H=>(c25 c.Avoid p hp hp2 fr).up' H rfl rfl
 unfold refN
 by_cases g1:checkE n l c = 0
 case neg =>
   rw [if_pos g1]
   have g1':¬ checkE n l c = 0:=g1
   generalize checkE n l c = e at *
   simp
   refine ⟨_,_,.inl (by simpa using h13 _),by simp,?_⟩
   simp [g1']
 rw [if_neg (by simpa using g1)]
 rw [g1] at h13
 obtain ⟨n1,n2,l2,lk,cn⟩:=check_links g1
 obtain ⟨asc,_,lko⟩:=links_asc lk
 obtain ⟨c1,c2,c3,_⟩:=con_ok cn
 obtain ⟨N,hN⟩:∃ N:Nat,n = N:=⟨n.toNat,by omega⟩
 subst hN
 simp
 refine ⟨_,_,.inl (by simpa using h13 _),by simp,?_⟩
 by_cases o1:fr < 0
 · have:outN N fr = true ∨ outN N to = true:=by simp [outN,o1]
   simp [this,o1]
 by_cases o2:(N:Int) ≤ fr
 · have:outN N fr = true ∨ outN N to = true:=by simp [outN,o2]
   simp [this,o1,o2]
 by_cases o3:to < 0
 · have:outN N fr = true ∨ outN N to = true:=by simp [outN,o3]
   simp [this,o1,o2,o3]
 by_cases o4:(N:Int) ≤ to
 · have:outN N fr = true ∨ outN N to = true:=by simp [outN,o4]
   simp [this,o1,o2,o3,o4]
 have ho1:outN N fr = false:=by simp [outN,o1,o2]
 have ho2:outN N to = false:=by simp [outN,o3,o4]
 have hlk:∀ x ∈ l,okLk N x:=fun x hx=>(link_ok (lko x hx)).1
 have hf:=firstW_ok (n:=N) (fr:=fr) (by omega) (by omega) c
 simp only [Int.toNat_natCast]
 obtain ⟨A0,hA⟩:∃ A0,A0 = if hasB c.Avoid fr = true then [] else [firstW fr c]:=⟨_,rfl⟩
 rw [← hA]
 have hA0:okNx N c.Thru.length 0 A0:=by
   rw [hA]
   split
   · exact okNx_nil _ _ _
   · refine ⟨fun w hw=>?_,by simp⟩
     rw [List.mem_singleton] at hw
     subst hw
     exact hf
 have hlen:=loopR_len hlk (to:=to) (sz:=N * (c.Thru.length + 1)) (N * (c.Thru.length + 1) + 1) 0 A0 none hA0 (by simp)
 have hs1:N * (c.Thru.length + 1) ≤ 128 * 65:=Nat.mul_le_mul (by omega) (by omega)
 have co:=fun Q' hQ' s' hs'=>c16o l m hm (by omega) c p hp hp2 N (by omega) c.Thru.length rfl (by omega) hlk to A0 hA0 _ rfl Q' hQ' _ rfl s' hs'
 rw [hq] at hlen hs1 co
 rw [hq]
 generalize loopR l c to (N * (q + 1)) (N * (q + 1) + 1) 0 A0 none = R at *
 have fw:encW (firstW fr c) = .agg [.sl 1 [.int .i64 fr] .sh,.int .i64 0,.int .i64 (if c.Thru[0]? = some fr then 1 else 0)]:=by
   simp only [encW,ceW,firstW]; congr 4; split <;> rfl
 by_cases a1:hasB c.Avoid fr = true
 · rw [a1] at h25
   rw [if_pos a1] at hA
   by_cases q0:q = 0
   · simp [o1,o2,o3,o4,hq,q0]
     refine ⟨_,_,.inl (by simpa using h25 _),by simp,?_⟩
     simp
     refine co _ (fun u b hu hb=>?_) _ ?_
     · simp only [holds,List.mem_cons,List.not_mem_nil,or_false,forall_eq_or_imp,forall_eq] at hu
       obtain ⟨u0,u1⟩:=hu
       subst hb
       cases b with
       | none=>simp [u0,u1,bC,ho1,ho2]
       | some w =>
         have hw:=hlen w rfl
         have h35:=fun H=>(c35 w.N w.N.length rfl (by omega)).up' H rfl rfl
         by_cases hr:repB w.N = true
         · rw [hr] at h35
           simp [u0,u1,bC,ceW]
           refine ⟨_,_,.inl (by simpa using h35 _),by simp,?_⟩
           simp [hr,ho1,ho2]
         · have hr':repB w.N = false:=by simpa using hr
           rw [hr'] at h35
           simp [u0,u1,bC,ceW]
           refine ⟨_,_,.inl (by simpa using h35 _),by simp,?_⟩
           simp [hr',u0,u1,ho1,ho2]
     · simp [slO,hA,bC,hm]
   obtain ⟨y,hy⟩:∃ y,c.Thru[0]? = some y:=⟨_,List.getElem?_eq_getElem (by omega)⟩
   have q1:0 < q:=by omega
   by_cases e:y = fr
   · subst e
     simp [o1,o2,o3,o4,hq,q0,q1,hy,gE hy]
     refine ⟨_,_,.inl (by simpa using h25 _),by simp,?_⟩
     simp
     refine co _ (fun u b hu hb=>?_) _ ?_
     · simp only [holds,List.mem_cons,List.not_mem_nil,or_false,forall_eq_or_imp,forall_eq] at hu
       obtain ⟨u0,u1⟩:=hu
       subst hb
       cases b with
       | none=>simp [u0,u1,bC,ho1,ho2]
       | some w =>
         have hw:=hlen w rfl
         have h35:=fun H=>(c35 w.N w.N.length rfl (by omega)).up' H rfl rfl
         by_cases hr:repB w.N = true
         · rw [hr] at h35
           simp [u0,u1,bC,ceW]
           refine ⟨_,_,.inl (by simpa using h35 _),by simp,?_⟩
           simp [hr,ho1,ho2]
         · have hr':repB w.N = false:=by simpa using hr
           rw [hr'] at h35
           simp [u0,u1,bC,ceW]
           refine ⟨_,_,.inl (by simpa using h35 _),by simp,?_⟩
           simp [hr',u0,u1,ho1,ho2]
     · simp [slO,hA,bC,hm]
   · simp [o1,o2,o3,o4,hq,q0,q1,hy,gE hy,e]
     refine ⟨_,_,.inl (by simpa using h25 _),by simp,?_⟩
     simp
     refine co _ (fun u b hu hb=>?_) _ ?_
     · simp only [holds,List.mem_cons,List.not_mem_nil,or_false,forall_eq_or_imp,forall_eq] at hu
       obtain ⟨u0,u1⟩:=hu
       subst hb
       cases b with
       | none=>simp [u0,u1,bC,ho1,ho2]
       | some w =>
         have hw:=hlen w rfl
         have h35:=fun H=>(c35 w.N w.N.length rfl (by omega)).up' H rfl rfl
         by_cases hr:repB w.N = true
         · rw [hr] at h35
           simp [u0,u1,bC,ceW]
           refine ⟨_,_,.inl (by simpa using h35 _),by simp,?_⟩
           simp [hr,ho1,ho2]
         · have hr':repB w.N = false:=by simpa using hr
           rw [hr'] at h35
           simp [u0,u1,bC,ceW]
           refine ⟨_,_,.inl (by simpa using h35 _),by simp,?_⟩
           simp [hr',u0,u1,ho1,ho2]
     · simp [slO,hA,bC,hm]
 · have a1':hasB c.Avoid fr = false:=by simpa using a1
   rw [a1'] at h25
   rw [if_neg a1] at hA
   by_cases q0:q = 0
   · have e0:¬ c.Thru[0]? = some fr:=by rw [List.getElem?_eq_none (by omega)]; simp
     rw [if_neg e0] at fw
     simp [o1,o2,o3,o4,hq,q0]
     refine ⟨_,_,.inl (by simpa using h25 _),by simp,?_⟩
     simp
     refine LoopK.deep 15 (by decide) 3 _ [encW (firstW fr c)] .full (by simp [e0]; rfl) (by simp [ceW,firstW,e0,All2,LeC]) ?_
     refine co _ (fun u b hu hb=>?_) _ ?_
     · simp only [holds,List.mem_cons,List.not_mem_nil,or_false,forall_eq_or_imp,forall_eq] at hu
       obtain ⟨u0,u1⟩:=hu
       subst hb
       cases b with
       | none=>simp [u0,u1,bC,ho1,ho2]
       | some w =>
         have hw:=hlen w rfl
         have h35:=fun H=>(c35 w.N w.N.length rfl (by omega)).up' H rfl rfl
         by_cases hr:repB w.N = true
         · rw [hr] at h35
           simp [u0,u1,bC,ceW]
           refine ⟨_,_,.inl (by simpa using h35 _),by simp,?_⟩
           simp [hr,ho1,ho2]
         · have hr':repB w.N = false:=by simpa using hr
           rw [hr'] at h35
           simp [u0,u1,bC,ceW]
           refine ⟨_,_,.inl (by simpa using h35 _),by simp,?_⟩
           simp [hr',u0,u1,ho1,ho2]
     · simp [slO,hA,bC,ceW,firstW,e0]
   obtain ⟨y,hy⟩:∃ y,c.Thru[0]? = some y:=⟨_,List.getElem?_eq_getElem (by omega)⟩
   have q1:0 < q:=by omega
   by_cases e:y = fr
   · subst e
     rw [if_pos hy] at fw
     simp [o1,o2,o3,o4,hq,q0,q1,hy,gE hy]
     refine ⟨_,_,.inl (by simpa using h25 _),by simp,?_⟩
     simp
     refine LoopK.deep 15 (by decide) 3 _ [encW (firstW y c)] .full (by simp [hy]; rfl) (by simp [ceW,firstW,hy,All2,LeC]) ?_
     refine co _ (fun u b hu hb=>?_) _ ?_
     · simp only [holds,List.mem_cons,List.not_mem_nil,or_false,forall_eq_or_imp,forall_eq] at hu
       obtain ⟨u0,u1⟩:=hu
       subst hb
       cases b with
       | none=>simp [u0,u1,bC,ho1,ho2]
       | some w =>
         have hw:=hlen w rfl
         have h35:=fun H=>(c35 w.N w.N.length rfl (by omega)).up' H rfl rfl
         by_cases hr:repB w.N = true
         · rw [hr] at h35
           simp [u0,u1,bC,ceW]
           refine ⟨_,_,.inl (by simpa using h35 _),by simp,?_⟩
           simp [hr,ho1,ho2]
         · have hr':repB w.N = false:=by simpa using hr
           rw [hr'] at h35
           simp [u0,u1,bC,ceW]
           refine ⟨_,_,.inl (by simpa using h35 _),by simp,?_⟩
           simp [hr',u0,u1,ho1,ho2]
     · simp [slO,hA,bC,ceW,firstW,hy]
   · have e0:¬ c.Thru[0]? = some fr:=by rw [hy]; simpa using e
     rw [if_neg e0] at fw
     simp [o1,o2,o3,o4,hq,q0,q1,hy,gE hy,e]
     refine ⟨_,_,.inl (by simpa using h25 _),by simp,?_⟩
     simp
     refine LoopK.deep 15 (by decide) 3 _ [encW (firstW fr c)] .full (by simp [e0]; rfl) (by simp [ceW,firstW,e0,All2,LeC]) ?_
     refine co _ (fun u b hu hb=>?_) _ ?_
     · simp only [holds,List.mem_cons,List.not_mem_nil,or_false,forall_eq_or_imp,forall_eq] at hu
       obtain ⟨u0,u1⟩:=hu
       subst hb
       cases b with
       | none=>simp [u0,u1,bC,ho1,ho2]
       | some w =>
         have hw:=hlen w rfl
         have h35:=fun H=>(c35 w.N w.N.length rfl (by omega)).up' H rfl rfl
         by_cases hr:repB w.N = true
         · rw [hr] at h35
           simp [u0,u1,bC,ceW]
           refine ⟨_,_,.inl (by simpa using h35 _),by simp,?_⟩
           simp [hr,ho1,ho2]
         · have hr':repB w.N = false:=by simpa using hr
           rw [hr'] at h35
           simp [u0,u1,bC,ceW]
           refine ⟨_,_,.inl (by simpa using h35 _),by simp,?_⟩
           simp [hr',u0,u1,ho1,ho2]
     · simp [slO,hA,bC,ceW,firstW,e0]
end Go.Proofs.YtpmmnnaaoideeaaGreat

/- The reference's Setup, by the program. -/
namespace Go.Proofs.YtpmmnnaaoideeaaGreat
open Go Go.Am Go.Wk
theorem deepTup {P:Program} {f:FuncId} {args:List AVal} {H H':List (List AVal)} {i k:Nat} {xs ys:List AVal} {md:Am.Mode} {vs:List AVal} (h:CFun P f args H (.tup vs) H') (hi:vs[i]? = some (.sl k xs md)) (hd:All2 (fun x y=>All2 LeC x.cells y.cells) xs ys):CFun P f args H (.tup (vs.set i (.sl k ys .sh))) H':=by
 refine ⟨h.1,fun G w cargs a1 a2 a3 a4 a5=>(h.2 G w cargs a1 a2 a3 a4 a5).mono ?_⟩
 rintro e w' ⟨v,G',e1,g1,g2,g3,g4,g5,g6⟩
 refine ⟨v,G',e1,g1,g2,?_,OwnAt.of_not rfl,g5,g6⟩
 cases g3 with
 | tree _ _ ht=>cases ht
 | tup _ arr hs hh =>
   refine .tup _ arr (by rw [List.length_set]; exact hs) (fun j y u hy hu=>?_)
   by_cases e:i = j
   · subst e
     rw [List.getElem?_set_self (List.getElem?_eq_some_iff.1 hi).1] at hy
     injection hy with hy
     subst hy
     exact .tree _ _ (((hh i _ u hi hu).toTree rfl).deep hd)
   · rw [List.getElem?_set_ne e] at hy
     exact hh j y u hy hu
def cellsT2 (x:Tun × Bool):List AVal:=if x.2 = true then (cellsT x.1).set 11 (.sl 0 [] .full) else cellsT x.1
def encT2 (x:Tun × Bool):AVal:=.agg (cellsT2 x)
@[simp] theorem encT2_f (x:Tun):encT2 (x,false) = .agg (cellsT x):=rfl
@[simp] theorem encT2_t (x:Tun):encT2 (noP x,true) = .agg ((cellsT x).set 11 (.sl 0 [] .full)):=rfl
theorem T2_le:∀ (xs:List (Tun × Bool)),(∀ x ∈ xs,x.2 = true → x.1.P = []) → All2 (fun x y=>All2 LeC x.cells y.cells) (xs.map encT2) ((xs.map Prod.fst).map encT)
 | [],_=>trivial
 | (x,b) :: xs,h=>by
   refine ⟨?_,T2_le xs fun y hy=>h y (List.mem_cons_of_mem _ hy)⟩
   have h0:=h (x,b) (by simp)
   cases b with
   | false=>simp [AVal.cells,All2,LeC]
   | true =>
     have h0:=h0 rfl
     simp only at h0
     simp [encT2,cellsT2,AVal.cells,All2,LeC,h0]
def rfB (vs:List Int) (w:Tun):List (Tun × Bool) → Bool → List Tun → List (Tun × Bool) × Bool
 | acc,d,[]=>(acc,d)
 | acc,d,x :: ts=>rfB vs w ((if (!d && decide (w.ID < x.ID)) = true then acc ++ [(w,false)] else acc) ++ [if hasB vs x.ID = true then (noP x,true) else (x,false)]) (d || decide (w.ID < x.ID)) ts
theorem rfB_fst (vs:List Int) (w:Tun):∀ (ts:List Tun) (acc:List (Tun × Bool)) (d:Bool) (l:List Lnk),(rfV vs w (acc.map Prod.fst) d ts l).2 = ((rfB vs w acc d ts).1.map Prod.fst,(rfB vs w acc d ts).2)
 | [],_,_,_=>rfl
 | x :: ts,acc,d,l=>by
   simp only [rfV,rfB]
   rw [← rfB_fst vs w ts]
   congr 2
   by_cases g:(!d && decide (w.ID < x.ID)) = true <;> by_cases g2:hasB vs x.ID = true <;> simp [g,g2]
theorem rfB_ok (vs:List Int) (w:Tun):∀ (ts:List Tun) (acc:List (Tun × Bool)) (d:Bool),(∀ x ∈ acc,x.2 = true → x.1.P = []) → ∀ x ∈ (rfB vs w acc d ts).1,x.2 = true → x.1.P = []
 | [],_,_,h=>h
 | x :: ts,acc,d,h=>by
   simp only [rfB]
   refine rfB_ok vs w ts _ _ fun y hy=>?_
   rcases List.mem_append.1 hy with hy | hy
   · by_cases g:(!d && decide (w.ID < x.ID)) = true
     · rw [if_pos g] at hy
       rcases List.mem_append.1 hy with hy | hy
       · exact h y hy
       · simp at hy; subst hy; intro e; cases e
     · rw [if_neg g] at hy; exact h y hy
   · simp only [List.mem_singleton] at hy
     subst hy
     by_cases g2:hasB vs x.ID = true
     · rw [if_pos g2]; intro _; rfl
     · rw [if_neg g2]; intro e; cases e
noncomputable def suC (n:Int) (l:List Lnk) (ts:List Tun) (w:Tun):List (Tun × Bool) :=
 if (rfB (vicN l ts (routeN n l w.From w.To w.W).1 w.W).1 (wP w (routeN n l w.From w.To w.W).1) [] false ts).2 = true then (rfB (vicN l ts (routeN n l w.From w.To w.W).1 w.W).1 (wP w (routeN n l w.From w.To w.W).1) [] false ts).1
 else (rfB (vicN l ts (routeN n l w.From w.To w.W).1 w.W).1 (wP w (routeN n l w.From w.To w.W).1) [] false ts).1 ++ [(wP w (routeN n l w.From w.To w.W).1,false)]
noncomputable def suX (n:Int) (l:List Lnk) (ts:List Tun) (w:Tun):List (Tun × Bool):=if (suN n l ts w).2.2.2 ≠ 0 then [] else suC n l ts w
theorem suX_ok (n:Int) (l:List Lnk) (ts:List Tun) (w:Tun):∀ x ∈ suX n l ts w,x.2 = true → x.1.P = []:=by
 unfold suX
 split
 · simp
 · unfold suC
   split
   · exact rfB_ok _ _ _ _ _ (by simp)
   · intro x hx
     rcases List.mem_append.1 hx with hx | hx
     · exact rfB_ok _ _ _ _ _ (by simp) x hx
     · simp at hx; subst hx; intro e; cases e
theorem suX_fst {n:Int} {l:List Lnk} {ts:List Tun} {w:Tun} (hpl:∀ t ∈ ts,t.P.length ≤ 30):(suX n l ts w).map Prod.fst = (suN n l ts w).2.1:=by
 obtain ⟨S,hS⟩:∃ S,S = suN n l ts w:=⟨_,rfl⟩
 unfold suX
 rw [← hS]
 have err:∀ (q:Int) (C:List (Tun × Bool)),S = ([],[],[],q) → q ≠ 0 → List.map Prod.fst (if S.2.2.2 ≠ 0 then [] else C) = S.2.1:=by
   intro q C e hq
   subst e
   rw [if_pos hq]
   rfl
 unfold suN at hS
 by_cases g1:chkT n l ts = 0
 case neg=>rw [if_pos g1] at hS; exact err _ _ hS g1
 rw [if_neg (by simpa using g1)] at hS
 by_cases g2:wantE n ts w = 0
 case neg=>rw [if_pos g2] at hS; exact err _ _ hS g2
 rw [if_neg (by simpa using g2)] at hS
 by_cases g3:(routeN n l w.From w.To w.W).2.2 = 0
 case neg=>rw [if_pos g3] at hS; exact err _ _ hS g3
 rw [if_neg (by simpa using g3)] at hS
 by_cases g4:(vicN l ts (routeN n l w.From w.To w.W).1 w.W).2 = 0
 case neg=>rw [if_pos g4] at hS; exact err _ _ hS g4
 rw [if_neg (by simpa using g4),← rf2_eq (Inv.of g1 hpl) g2] at hS
 unfold suC
 generalize (routeN n l w.From w.To w.W).1 = p at *
 generalize (vicN l ts p w.W).1 = vs at *
 unfold rf2 at hS
 by_cases g5:(resN (rfV vs (wP w p) [] false ts l).1 (wP w p)).2 = 0
 case neg=>rw [if_pos g5] at hS; exact err _ _ hS g5
 rw [if_neg (by simpa using g5)] at hS
 subst hS
 have:=rfB_fst vs (wP w p) ts [] false l
 simp only [List.map_nil] at this
 rw [this]
 simp only [ne_eq,not_true,if_false]
 by_cases g6:(rfB vs (wP w p) [] false ts).2 = true
 · rw [if_pos g6,if_pos g6]
 · rw [if_neg g6,if_neg g6]; simp
@[simp] def encSx (q:List Lnk × List Tun × List Int × Int) (X:List (Tun × Bool)):AVal:=.tup [.sl 13 (q.1.map encL) .sh,.sl 12 (X.map encT2) .sh,.sl 1 (q.2.2.1.map encI) .sh,.int .i64 q.2.2.2]
end Go.Proofs.YtpmmnnaaoideeaaGreat

/- The reference's Setup, by the program: the walk. -/
namespace Go.Proofs.YtpmmnnaaoideeaaGreat
open Go Go.Am Go.Wk
theorem okA_bd {l:List Lnk} {x:Tun} (ok:okA l x):x.P.length ≤ 60 ∧ inI x.W.Hold ∧ inI x.W.Band:=by
 have h0:=ok.h0; have h7:=ok.h7; have b0:=ok.b0; have b1:=ok.b1; have p:=ok.p
 unfold inI
 omega
theorem loop_bd {i r a:Nat} (h:i < r) (hr:r ≤ 100) (ha:a ≤ 2 * i):IntKind.i64.wrap ((i:Int) + 1) = i + 1 ∧ a ≤ 140737488355327 ∧ (a + 1) * 136 ≤ 140737488355328 ∧ a ≤ 140737488355326 ∧ (a + 2) * 136 ≤ 140737488355328 :=
 ⟨wrap_in (by omega),by omega,by omega,by omega,by omega⟩
set_option maxHeartbeats 32000000 in
set_option maxRecDepth 10000 in
theorem t15x (n:Int) (hn9:n ≤ 30) (l:List Lnk) (k:Nat) (hk:l.length = k) (hk2:k < 1000) (ts:List Tun) (r:Nat) (hr:ts.length = r) (hr2:r ≤ 100) (hts:∀ t ∈ ts,okTn t ∧ t.P.length ≤ 30) (w:Tun) (oa:w.W.Avoid.length < 9223372036854775807) (oh:w.W.Thru.length < 9223372036854775807) (hwI:inI w.W.Hold ∧ inI w.W.Band) :
   CFun Tryz.prog 15 [.int .i64 n,.sl 13 (l.map encL) .sh,.sl 12 (ts.map encT) .sh,encT w] [] (encSx (suN n l ts w) (suX n l ts w)) []:=by
 refine CFun.intro (tr:=[117,121,128]) (fz:=[]) (n:=144) (rs:=[.tmp 8,.tmp 9,.tmp 10,.tmp 11]) Tryz.func15 rfl (by kernel_rfl) rfl rfl mixed (by kernel_rfl) (by simp) (by simp) ?_
 have h11:=fun H=>(t11 n l k hk hk2 ts r hr (by omega) hts).up' H (by simp [noid,noid0]) rfl
 obtain ⟨X,hX⟩:∃ X,X = suX n l ts w:=⟨_,rfl⟩
 obtain ⟨S,hS⟩:∃ S,S = suN n l ts w:=⟨_,rfl⟩
 rw [← hX,← hS]
 unfold suX at hX
 rw [← hS] at hX
 have err:∀ q:Int,S = ([],[],[],q) → q ≠ 0 → X = []:=by
   intro q e hq
   rw [hX,e]
   exact if_pos hq
 by_cases g1:chkT n l ts = 0
 case neg =>
   have hS:S = ([],[],[],chkT n l ts):=by rw [hS]; unfold suN; rw [if_pos g1]
   have hX:=err _ hS g1
   subst hS
   subst hX
   generalize chkT n l ts = q at *
   simp
   refine ⟨_,_,.inl (by simpa using h11 _),by simp,?_⟩
   simp [g1]
 rw [g1] at h11
 have es:S = if wantE n ts w ≠ 0 then ([],[],[],wantE n ts w)
     else if (routeN n l w.From w.To w.W).2.2 ≠ 0 then ([],[],[],(routeN n l w.From w.To w.W).2.2)
     else if (vicN l ts (routeN n l w.From w.To w.W).1 w.W).2 ≠ 0 then ([],[],[],(vicN l ts (routeN n l w.From w.To w.W).1 w.W).2)
     else su2 l ts w (routeN n l w.From w.To w.W).1 (vicN l ts (routeN n l w.From w.To w.W).1 w.W).1:=by rw [hS]; unfold suN; rw [if_neg (by simpa using g1)]
 clear hS
 have hinv:Inv n l ts:=Inv.of g1 (fun t ht=>(hts t ht).2)
 have hwe:wantE n ts w = if w.ID < 1 then 5 else if ts.any (isID w.ID) = true then 7 else if conE n w.W ≠ 0 then conE n w.W else endsE n w:=rfl
 unfold suC at hX
 by_cases q1:w.ID < 1
 · rw [if_pos q1] at hwe
   rw [hwe,if_pos (by decide)] at es
   have hX:=err _ es (by decide)
   subst es
   subst hX
   simp
   refine ⟨_,_,.inl (by simpa using h11 _),by simp,?_⟩
   simp [q1]
 rw [if_neg q1] at hwe
 simp
 refine ⟨_,_,.inl (by simpa using h11 _),by simp,?_⟩
 simp [q1,hr]
 refine LoopK.intro (tr:=[117,121,128]) mixed (by kernel_rfl) (fun j:Nat=>[(0,.int .i64 n),(1,.sl 13 (l.map encL) .sh),(2,.sl 12 (ts.map encT) .sh),(7,.ptr 0 0),(35,.sl 12 (ts.map encT) .sh),(36,.int .i64 r),(37,.int .i64 j)]) (fun _=>[cellsT w]) (fun j=>j ≤ r ∧ ts.any (isID w.ID) = (ts.drop j).any (isID w.ID)) (fun j=>r - j) 0 ?_ ?_ ?_
 · simp
 · simp
 rintro j ⟨j1,j2⟩
 by_cases hj:j < r
 · obtain ⟨x,hx,hd⟩:=get_drop (l:=ts) (i:=j) (by omega)
   rw [hd] at j2
   simp only [List.any_cons] at j2
   have w1:IntKind.i64.wrap ((j:Int) + 1) = j + 1:=wrap_in (by omega)
   by_cases hid:x.ID = w.ID
   · have h0:isID w.ID x = true:=by simp [isID,hid]
     rw [h0,Bool.true_or] at j2
     rw [if_pos j2] at hwe
     rw [hwe,if_pos (by decide)] at es
     have hX:=err _ es (by decide)
     subst es
     subst hX
     simp [hj,hr,hx,gE hx,hid]
   · have h0:isID w.ID x = false:=by simp [isID,hid]
     rw [h0,Bool.false_or] at j2
     simp [hj,hr,hx,gE hx,hid,w1]
     exact ⟨j + 1,⟨by omega,j2⟩,by omega,by simp⟩
 have hjr:j = r:=by omega
 rw [List.drop_eq_nil_of_le (by omega)] at j2
 have hany:ts.any (isID w.ID) = false:=j2
 rw [hany,if_neg Bool.false_ne_true] at hwe
 clear j2 hany
 have k13:=fun H=>(c13 l k hk (by omega) w.W n _ _ rfl rfl oa oh).up' H (by simp [noid,noid0]) rfl
 rw [(checkE_con hinv.ck w.W).1] at k13
 by_cases q3:conE n w.W = 0
 case neg =>
   rw [if_pos q3] at hwe
   rw [hwe,if_pos q3] at es
   have hX:=err _ es q3
   subst es
   subst hX
   generalize conE n w.W = q at *
   simp [hj]
   refine ⟨_,_,.inl (by simpa using k13 _),by simp,?_⟩
   simp [q3]
 rw [if_neg (by simpa using q3)] at hwe
 rw [q3] at k13
 have k29:=fun H=>(t29 n w).up' H (by simp [noid,noid0]) rfl
 by_cases q4:endsE n w = 0
 case neg =>
   rw [hwe,if_pos q4] at es
   have hX:=err _ es q4
   subst es
   subst hX
   generalize endsE n w = q at *
   simp [hj]
   refine ⟨_,_,.inl (by simpa using k13 _),by simp,?_⟩
   simp
   refine ⟨_,_,.inl (by simpa using k29 _),by simp,?_⟩
   simp [q4]
 rw [q4] at hwe k29
 rw [if_neg (by simpa using hwe)] at es
 obtain ⟨n1,n2,_,_,_⟩:=check_links hinv.ck
 obtain ⟨N,rfl⟩:∃ N:Nat,n = N:=⟨n.toNat,by omega⟩
 have hck:=(checkE_con hinv.ck w.W).1
 rw [q3] at hck
 obtain ⟨o1,o2⟩:=ends_out q4
 have k16r:=fun H=>(c16 l k hk (by omega) w.W _ _ rfl rfl oa oh N w.From w.To).up' H (by simp [noid,noid0]) rfl
 simp only [← routeN_ref] at k16r
 have hpath:=routeN_path hck o1 o2
 generalize hR:routeN N l w.From w.To w.W = R at *
 obtain ⟨p,dd,e⟩:=R
 simp only at es hpath k16r hX
 by_cases q5:e = 0
 case neg =>
   rw [if_pos q5] at es
   have hX:=err _ es q5
   subst es
   subst hX
   simp [hj]
   refine ⟨_,_,.inl (by simpa using k13 _),by simp,?_⟩
   simp
   refine ⟨_,_,.inl (by simpa using k29 _),by simp,?_⟩
   simp
   refine ⟨_,_,.inl (by simpa using k16r _),by simp,?_⟩
   simp [q5]
 rw [if_neg (by simpa using q5)] at es
 obtain ⟨_,_,_,_,_,p6⟩:=hpath q5
 subst q5
 have k19:=fun H=>(t19 l k hk hk2 (fun x hx=>(hinv.fr x hx).2) ts r hr hr2 (fun t ht=>by
   have ok:=hinv.okA t ht
   exact ⟨ok.p,ok.b1,by have:=ok.h0; have:=ok.h7; unfold inI; omega⟩) p _ rfl (by omega) w.W).up' H (by simp [noid,noid0]) (by simp [noid,noid0])
 have hvl:=vicN_len l ts p w.W
 generalize hV:vicN l ts p w.W = V at *
 obtain ⟨vs,e⟩:=V
 simp only at es k19 hvl hX
 by_cases q6:e = 0
 case neg =>
   rw [if_pos q6] at es
   have hX:=err _ es q6
   subst es
   subst hX
   simp [hj]
   refine ⟨_,_,.inl (by simpa using k13 _),by simp,?_⟩
   simp
   refine ⟨_,_,.inl (by simpa using k29 _),by simp,?_⟩
   simp
   refine ⟨_,_,.inl (by simpa using k16r _),by simp,?_⟩
   simp
   refine ⟨_,_,.inl (by simpa using k19 _),by simp,?_⟩
   simp [q6]
 rw [if_neg (by simpa using q6),← rf2_eq hinv hwe] at es
 subst q6
 unfold rf2 at es
 have hTB:=rfB_fst vs (wP w p) ts [] false l
 simp only [List.map_nil] at hTB
 obtain ⟨B,hB⟩:∃ B,B = rfB vs (wP w p) [] false ts:=⟨_,rfl⟩
 rw [← hB] at hX hTB
 obtain ⟨T,hT⟩:∃ T,T = (rfV vs (wP w p) [] false ts l).1:=⟨_,rfl⟩
 rw [hTB,← hT] at es
 have k12:=fun x H=>(c25 vs _ rfl (by omega) x).up' H rfl rfl
 simp [hj]
 refine ⟨_,_,.inl (by simpa using k13 _),by simp,?_⟩
 simp
 refine ⟨_,_,.inl (by simpa using k29 _),by simp,?_⟩
 simp
 refine ⟨_,_,.inl (by simpa using k16r _),by simp,?_⟩
 simp
 refine ⟨_,_,.inl (by simpa using k19 _),by simp,?_⟩
 simp [hr]
 clear k13 k29 k16r k19 h11 hpath hck o1 o2
 have hk6:k < 1000000:=by omega
 obtain ⟨INV,hINV⟩:∃ INV:Nat × List (Tun × Bool) × Bool × List Lnk → Prop,INV = fun s=>s.1 ≤ r ∧ s.2.1.length ≤ 2 * s.1 ∧ s.2.2.2.length = k ∧ (∃ a0,Inv N s.2.2.2 (a0 ++ ts.drop s.1)) ∧ B = rfB vs (wP w p) s.2.1 s.2.2.1 (ts.drop s.1) ∧ ∃ a1 d1,T = (rfV vs (wP w p) a1 d1 (ts.drop s.1) s.2.2.2).1:=⟨_,rfl⟩
 refine LoopK.intro (tr:=[117,121,128]) mixed (by kernel_rfl) (fun s:Nat × List (Tun × Bool) × Bool × List Lnk=>[(1,.sl 13 (s.2.2.2.map encL) .sh),(7,.ptr 0 0),(20,.sl 1 (vs.map encI) .sh),(21,.sl 12 (s.2.1.map encT2) .own),(22,.bool s.2.2.1),(91,.sl 12 (ts.map encT) .sh),(92,.int .i64 r),(93,.int .i64 s.1)]) (fun _=>[cellsT (wP w p)])
   INV (fun s=>r - s.1) (0,[],false,l) ?_ ?_ ?_
 · rw [hINV]; exact ⟨Nat.zero_le _,Nat.le_refl _,hk,⟨[],by simpa using hinv⟩,hB,_,_,hT⟩
 · simp [wP]
 rintro ⟨i,acc,d,ls⟩ i0
 rw [hINV] at i0
 obtain ⟨i1,i2,i3,⟨a0,i4⟩,i5,a1,d1,i6⟩:=i0
 simp only at i1 i2 i3 i4 i5 i6 ⊢
 by_cases hi:i < r
 · obtain ⟨x,hx,hd⟩:=get_drop (l:=ts) (i:=i) (by omega)
   rw [hd] at i4 i5 i6
   simp only [rfB] at i5
   simp only [rfV] at i6
   obtain ⟨w1,s1,s2,s3,s4⟩:=loop_bd hi hr2 i2
   have ok:=i4.okA x (by simp)
   obtain ⟨ob1,ob2⟩:=okA_bd ok
   have k16:=fun H=>(t16 ls k i3 hk6 (fun y hy=>(i4.fr y hy).2) x _ rfl ob1 ob2).up' H (by simp [noid,noid0]) (by simp [noid,noid0])
   have kx:=k12 x.ID
   by_cases gv:hasB vs x.ID = true
   · have g2:=i4.relOk
     have hrel:=i4.rel g2
     have hlen:(relN ls x).1.length = k:=by rw [(relN_some g2).2.2.1,chA_len,i3]
     simp only [gv,if_true] at i5 i6
     generalize hq:relN ls x = q at *
     obtain ⟨lq,eq0⟩:=q
     simp only at g2 hrel hlen i6
     subst g2
     cases d with
     | true =>
       simp [hi,hr,hx,gE hx,-Bool.exists_bool]
       refine ⟨_,_,.inl (by simpa using kx _),by simp,?_⟩
       simp [gv,-Bool.exists_bool]
       refine ⟨_,_,.inl (by simpa using k16 _),by simp,?_⟩
       simp [s1,s2,s3,s4,w1,-Bool.exists_bool]
       exact ⟨i + 1,acc ++ [(noP x,true)],true,lq,by rw [hINV]; exact ⟨by show i + 1 ≤ r; omega,by first | omega | (simp; omega),hlen,⟨a0 ++ [noP x],by simpa using hrel⟩,by simpa using i5,_,_,i6⟩,by omega,by simp⟩
     | false =>
       by_cases hw:w.ID < x.ID
       · have hw':(wP w p).ID < x.ID:=hw
         simp [hi,hr,hx,gE hx,hw,wP,-Bool.exists_bool]
         refine ⟨_,_,.inl (by simpa using kx _),by simp,?_⟩
         simp [gv,hw,wP,-Bool.exists_bool]
         refine ⟨_,_,.inl (by simpa using k16 _),by simp,?_⟩
         simp [s1,s2,s3,s4,w1,hw,wP,-Bool.exists_bool]
         exact ⟨i + 1,acc ++ [(wP w p,false),(noP x,true)],true,lq,by rw [hINV]; exact ⟨by show i + 1 ≤ r; omega,by first | omega | (simp; omega),hlen,⟨a0 ++ [noP x],by simpa using hrel⟩,by simpa [wP,hw] using i5,_,_,i6⟩,by omega,by simp [wP]⟩
       · have hw':¬ (wP w p).ID < x.ID:=hw
         simp [hi,hr,hx,gE hx,hw,wP,-Bool.exists_bool]
         refine ⟨_,_,.inl (by simpa using kx _),by simp,?_⟩
         simp [gv,hw,wP,-Bool.exists_bool]
         refine ⟨_,_,.inl (by simpa using k16 _),by simp,?_⟩
         simp [s1,s2,s3,s4,w1,hw,wP,-Bool.exists_bool]
         exact ⟨i + 1,acc ++ [(noP x,true)],false,lq,by rw [hINV]; exact ⟨by show i + 1 ≤ r; omega,by first | omega | (simp; omega),hlen,⟨a0 ++ [noP x],by simpa using hrel⟩,by simpa [wP,hw] using i5,_,_,i6⟩,by omega,by simp [wP]⟩
   · have gv':hasB vs x.ID = false:=by simpa using gv
     simp only [gv',Bool.false_eq_true,if_false] at i5 i6
     have hinv2:Inv N ls ((a0 ++ [x]) ++ ts.drop (i + 1)):=by simpa using i4
     cases d with
     | true =>
       simp [hi,hr,hx,gE hx,-Bool.exists_bool]
       refine ⟨_,_,.inl (by simpa using kx _),by simp,?_⟩
       simp [gv',s1,s2,s3,s4,w1,-Bool.exists_bool]
       exact ⟨i + 1,acc ++ [(x,false)],true,ls,by rw [hINV]; exact ⟨by show i + 1 ≤ r; omega,by first | omega | (simp; omega),i3,⟨_,hinv2⟩,by simpa using i5,_,_,i6⟩,by omega,by simp⟩
     | false =>
       by_cases hw:w.ID < x.ID
       · skip
         simp [hi,hr,hx,gE hx,hw,wP,-Bool.exists_bool]
         refine ⟨_,_,.inl (by simpa using kx _),by simp,?_⟩
         simp [gv',s1,s2,s3,s4,w1,hw,wP,-Bool.exists_bool]
         exact ⟨i + 1,acc ++ [(wP w p,false),(x,false)],true,ls,by rw [hINV]; exact ⟨by show i + 1 ≤ r; omega,by first | omega | (simp; omega),i3,⟨_,hinv2⟩,by simpa [wP,hw] using i5,_,_,i6⟩,by omega,by simp [wP]⟩
       · skip
         simp [hi,hr,hx,gE hx,hw,wP,-Bool.exists_bool]
         refine ⟨_,_,.inl (by simpa using kx _),by simp,?_⟩
         simp [gv',s1,s2,s3,s4,w1,hw,wP,-Bool.exists_bool]
         exact ⟨i + 1,acc ++ [(x,false)],false,ls,by rw [hINV]; exact ⟨by show i + 1 ≤ r; omega,by first | omega | (simp; omega),i3,⟨_,hinv2⟩,by simpa [wP,hw] using i5,_,_,i6⟩,by omega,by simp [wP]⟩
 · have hir:i = r:=by omega
   rw [List.drop_eq_nil_of_le (by omega)] at i4 i5 i6
   simp only [rfB] at i5
   simp only [rfV] at i6
   subst i5
   subst i6
   have k14:=fun H=>(t14 T k i3 (by omega) (fun y hy=>(i4.fr y hy).2) (wP w p) _ rfl (by simp only [wP]; omega) (by simpa [wP] using hwI)).up' H (by simp [noid,noid0]) (by simp [noid,noid0])
   obtain ⟨s1,s2⟩:acc.length ≤ 140737488355327 ∧ (acc.length + 1) * 136 ≤ 140737488355328:=by clear es hX hwe; omega
   generalize hq:resN T (wP w p) = q at *
   by_cases q7:q.2 = 0
   case neg =>
     rw [if_pos q7] at es
     have hX:=err _ es q7
     subst es
     subst hX
     cases d with
     | true =>
       simp [hi]
       refine ⟨_,_,.inl (by simpa [wP] using k14 _),by simp,?_⟩
       simp [q7]
     | false =>
       simp [hi,s1,s2,wP]
       refine ⟨_,_,.inl (by simpa [wP] using k14 _),by simp,?_⟩
       simp [q7]
   rw [if_neg (by simpa using q7)] at es
   rw [es] at hX
   simp only [ne_eq,not_true,if_false] at hX
   subst es
   subst hX
   cases d with
   | true =>
     simp [hi]
     refine ⟨_,_,.inl (by simpa [wP] using k14 _),by simp,?_⟩
     simp [q7]
   | false =>
     simp [hi,s1,s2,wP]
     refine ⟨_,_,.inl (by simpa [wP] using k14 _),by simp,?_⟩
     simp [q7]
theorem t15s (n:Int) (hn9:n ≤ 30) (l:List Lnk) (k:Nat) (hk:l.length = k) (hk2:k < 1000) (ts:List Tun) (r:Nat) (hr:ts.length = r) (hr2:r ≤ 100) (hts:∀ t ∈ ts,okTn t ∧ t.P.length ≤ 30) (w:Tun) (oa:w.W.Avoid.length < 9223372036854775807) (oh:w.W.Thru.length < 9223372036854775807) (hwI:inI w.W.Hold ∧ inI w.W.Band) :
   CFun Tryz.prog 15 [.int .i64 n,.sl 13 (l.map encL) .sh,.sl 12 (ts.map encT) .sh,encT w] [] (encSu (suN n l ts w)) []:=by
 have h:=t15x n hn9 l k hk hk2 ts r hr hr2 hts w oa oh hwI
 have hd:=T2_le _ (suX_ok n l ts w)
 rw [suX_fst (fun t ht=>(hts t ht).2)] at hd
 exact deepTup (i:=1) h rfl hd
end Go.Proofs.YtpmmnnaaoideeaaGreat

/- The equality of lists of tunnels, by the program. -/
namespace Go.Proofs.YtpmmnnaaoideeaaGreat
open Go Go.Am Go.Wk
theorem execK_mono {P:Program} {tr:List Nat} {d:Option Vw} {o:Oper} {K K':ASt → Prop} {s:ASt} (hK:∀ s,K s → K' s) (h:execK P tr d o K s):execK P tr d o K' s:=by
 have ok:okK (astepD P tr d s o) K → okK (astepD P tr d s o) K':=by
   cases astepD P tr d s o with
   | none=>exact fun h=>h
   | some s'=>exact fun h=>hK _ h
 unfold execK at h ⊢
 split
 · rename_i c hop
   simp only [hop] at h
   split
   · rename_i fo hc
     simp only [hc] at h
     split
     · rename_i f fs cs hf
       simp only [hf] at h
       split
       · rename_i hg
         rw [if_pos hg] at h
         unfold GiftK at h ⊢
         split at h
         · obtain ⟨x,H',h1,h2⟩:=h
           exact ⟨x,H',h1,hK _ h2⟩
         · exact h.elim
       · rename_i hg
         rw [if_neg hg] at h
         split
         · rename_i hg2
           rw [if_pos hg2] at h
           obtain ⟨x,h1,h2,h3⟩:=h
           exact ⟨x,h1,h2,hK _ h3⟩
         · rename_i hg2
           rw [if_neg hg2] at h
           split
           · rename_i hg3
             rw [if_pos hg3] at h
             obtain ⟨x,H',h1,h2,h3⟩:=h
             exact ⟨x,H',h1,h2,hK _ h3⟩
           · rename_i hg3
             rw [if_neg hg3] at h
             obtain ⟨x,H',h1,h2,h3⟩:=h
             exact ⟨x,H',h1,h2,hK _ h3⟩
     · rename_i hf
       exfalso
       split at h
       · rename_i f fs cs hf2; exact hf _ _ _ hf2
       · exact h
   · rename_i hc
     split at h
     · rename_i fo hc2; exact absurd hc2 (hc fo)
     · exact ok h
 · rename_i hop
   split at h
   · rename_i c hop2; exact absurd hop2 (hop c)
   · exact ok h
theorem awpOps_mono1 {P:Program} {tr:List Nat} {d:Option Vw} {all:Array Oper} {o:Oper} {K K':ASt → Prop} {s:ASt} (hK:∀ s,K s → K' s) (h:awpOps P tr d all [o] K s):awpOps P tr d all [o] K' s:=by
 have e:∀ K:ASt → Prop,awpOps P tr d all [o] K s = guardK all o (execK P tr d o K) (skipK o K) s:=fun K=>rfl
 rw [e] at h ⊢
 unfold guardK at h ⊢
 split
 · rename_i hg
   simp only [hg] at h
   exact execK_mono hK h
 · rename_i j want hg
   simp only [hg] at h
   split
   · rename_i q hq
     simp only [hq] at h
     have bk:∀ x,boolK q want (execK P tr d o K) (skipK o K) s x → boolK q want (execK P tr d o K') (skipK o K') s x:=by
       intro x hx
       cases x with
       | bool b =>
         cases b <;> cases want <;> simp only [boolK] at hx ⊢ <;> first | exact execK_mono hK hx | exact hK _ hx
       | _=>exact hx
     unfold gboolK at h ⊢
     split
     · rename_i hx; rw [hx] at h; exact hK _ h
     · rename_i x hx
       split at h
       · rename_i hx2; exact absurd hx2 hx
       · exact bk _ h
   · rename_i hq
     simp only [hq] at h
theorem any_memo {P:Program} {tr:List Nat} {all:Array Oper} {K:ASt → Prop} {s:ASt} (S:Nat → Array Bool → ASt → Prop) (h0:S all.size (Array.replicate all.size false) s)
   (hz:∀ ls s,S 0 ls s → Region.ready .any all ls = [] ∧ K s)
   (hs:∀ f ls s,S (f + 1) ls s → Region.ready .any all ls ≠ [] ∧ ∀ i ∈ Region.ready .any all ls,awpOps P tr none all [all.getD i default] (S f (ls.setIfInBounds i true)) s):AnyK P tr all K s:=by
 have key:∀ f ls s,S f ls s → awpAll P tr all f ls K s:=by
   intro f
   induction f with
   | zero=>exact fun ls s h=>hz ls s h
   | succ f ih =>
     intro ls s h
     obtain ⟨h1,h2⟩:=hs f ls s h
     exact ⟨fun e=>absurd e h1,fun i hi=>awpOps_mono1 (fun s' hs'=>ih _ s' hs') (h2 i hi)⟩
 exact key _ _ _ h0
def zC:List AVal:=[.int .i64 0,.int .i64 0,.int .i64 0,.int .u32 0,.int .u32 0,.int .i64 0,.sl 0 [] .full,.sl 0 [] .full]
theorem any_gen {P:Program} {tr:List Nat} {all:Array Oper} {K:ASt → Prop} {t:Nat → AVal} {H:List (List AVal)} (h:∀ t0,t0 = t → AnyK P tr all K ⟨t0,H⟩):AnyK P tr all K ⟨t,H⟩:=h t rfl
def st7 (x:Tun) (t0:Nat → AVal) (f:Nat) (ls:Array Bool) (s:ASt):Prop :=
 ∃ b0 b1 b2 b3 b4 b5 b6 b7:Bool,ls = #[b0,b1,b2,b3,b4,b5,b6,b7] ∧ f + (b0.toNat + b1.toNat + b2.toNat + b3.toNat + b4.toNat + b5.toNat + b6.toNat + b7.toNat) = 8 ∧
   ((b1 = true → b0 = true) ∧ (b3 = true → b2 = true) ∧ (b6 = true → b1 = true ∧ b4 = true ∧ b5 = true) ∧ (b7 = true → b3 = true ∧ b6 = true)) ∧
   (∀ i,i ∉ [26,27,28,29,8,9] → s.t i = t0 i) ∧
   ((b0 = true → s.t 26 = .ptr 0 3) ∧ (b1 = true → s.t 27 = .agg (cellsC x.W)) ∧ (b2 = true → s.t 28 = .ptr 1 3) ∧ (b3 = true → s.t 29 = .agg (cellsC x.W))) ∧
   ((b4 = false ∧ b5 = false ∧ s.H = [cellsT x,cellsT x]) ∨ (b4 = true ∧ b5 = false ∧ s.t 8 = .ptr 2 0 ∧ s.H = [cellsT x,cellsT x,zC]) ∨ (b4 = false ∧ b5 = true ∧ s.t 9 = .ptr 2 0 ∧ s.H = [cellsT x,cellsT x,zC]) ∨
     (b4 = true ∧ b5 = true ∧ s.t 8 = .ptr 2 0 ∧ s.t 9 = .ptr 3 0 ∧ s.H = [cellsT x,cellsT x,if b6 = true then cellsC x.W else zC,if b7 = true then cellsC x.W else zC]) ∨
     (b4 = true ∧ b5 = true ∧ s.t 8 = .ptr 3 0 ∧ s.t 9 = .ptr 2 0 ∧ s.H = [cellsT x,cellsT x,if b7 = true then cellsC x.W else zC,if b6 = true then cellsC x.W else zC]))
set_option maxHeartbeats 32000000 in
set_option maxRecDepth 10000 in
theorem t17s (ts:List Tun) (r:Nat) (hr:ts.length = r) (hr2:r < 1000000) (hts:∀ t ∈ ts,t.P.length < 1000000 ∧ t.W.Avoid.length < 9223372036854775807 ∧ t.W.Thru.length < 9223372036854775807) :
   CFun Tryz.prog 17 [.sl 12 (ts.map encT) .sh,.sl 12 (ts.map encT) .sh] [] (.bool true) []:=by
 refine CFun.intro (tr:=[600007]) (fz:=[]) (n:=114) (rs:=[.tmp 4]) Tryz.func17 rfl (by kernel_rfl) rfl rfl mixed (by kernel_rfl) (by simp) (by simp) ?_
 simp [hr]
 refine LoopK.intro (tr:=[600007]) mixed (by kernel_rfl) (fun j:Nat=>[(1,.sl 12 (ts.map encT) .sh),(15,.sl 12 (ts.map encT) .sh),(16,.int .i64 r),(17,.int .i64 j)]) (fun _=>[]) (fun j=>j ≤ r) (fun j=>r - j) 0 ?_ ?_ ?_
 · exact Nat.zero_le _
 · simp
 intro j j1
 by_cases hj:j < r
 case neg=>simp [hj]
 obtain ⟨x,hx,hd⟩:=get_drop (l:=ts) (i:=j) (by omega)
 have w1:IntKind.i64.wrap ((j:Int) + 1) = j + 1:=wrap_in (by omega)
 obtain ⟨h1,h2,h3⟩:=hts x (List.mem_of_getElem? hx)
 have k1:=fun H=>(c17 x.P x.P _ _ rfl rfl (by omega) (by omega)).up' H rfl rfl
 have k2:=fun H=>(c17 x.W.Avoid x.W.Avoid _ _ rfl rfl h2 h2).up' H rfl rfl
 have k3:=fun H=>(c17 x.W.Thru x.W.Thru _ _ rfl rfl h3 h3).up' H rfl rfl
 simp only [decide_true] at k1 k2 k3
 simp [hj,hr,hx,gE hx]
 refine any_gen fun t0 ht0=>?_
 have g1:t0 1 = .sl 12 (ts.map encT) .sh:=by rw [ht0]; simp
 have g6:t0 6 = .ptr 0 0:=by rw [ht0]; simp
 have g7:t0 7 = .ptr 1 0:=by rw [ht0]; simp
 have g15:t0 15 = .sl 12 (ts.map encT) .sh:=by rw [ht0]; simp
 have g16:t0 16 = .int .i64 r:=by rw [ht0]; simp
 have g17:t0 17 = .int .i64 j:=by rw [ht0]; simp
 clear ht0
 refine any_memo (st7 x t0) ⟨false,false,false,false,false,false,false,false,rfl,by simp,by simp,fun _ _=>rfl,by simp,.inl ⟨rfl,rfl,rfl⟩⟩ ?_ ?_
 · rintro ls s ⟨b0,b1,b2,b3,b4,b5,b6,b7,rfl,hf,-,hfr,hsl,hH⟩
   have hall:b0 = true ∧ b1 = true ∧ b2 = true ∧ b3 = true ∧ b4 = true ∧ b5 = true ∧ b6 = true ∧ b7 = true:=by
     have hb:∀ b:Bool,b.toNat ≤ 1:=fun b=>by cases b <;> simp
     have hb1:∀ b:Bool,b.toNat = 1 → b = true:=fun b=>by cases b <;> simp
     have q0:=hb b0; have q1:=hb b1; have q2:=hb b2; have q3:=hb b3; have q4:=hb b4; have q5:=hb b5; have q6:=hb b6; have q7:=hb b7
     exact ⟨hb1 _ (by omega),hb1 _ (by omega),hb1 _ (by omega),hb1 _ (by omega),hb1 _ (by omega),hb1 _ (by omega),hb1 _ (by omega),hb1 _ (by omega)⟩
   obtain ⟨rfl,rfl,rfl,rfl,rfl,rfl,rfl,rfl⟩:=hall
   refine ⟨by decide +kernel,?_⟩
   have f1:=hfr 1 (by decide); have f6:=hfr 6 (by decide); have f7:=hfr 7 (by decide); have f15:=hfr 15 (by decide); have f16:=hfr 16 (by decide); have f17:=hfr 17 (by decide)
   clear hfr hsl hf
   rw [g1] at f1; rw [g6] at f6; rw [g7] at f7; rw [g15] at f15; rw [g16] at f16; rw [g17] at f17
   obtain ⟨t,H⟩:=s
   simp only [Bool.true_eq_false,false_and,false_or,true_and,if_true,and_true] at hH
   simp only at f1 f6 f7 f15 f16 f17 hH
   rcases hH with ⟨e8,e9,rfl⟩ | ⟨e8,e9,rfl⟩
   all_goals
     simp [f1,f6,f7,f15,f16,f17,e8,e9]
     refine ⟨_,_,.inl (by simpa using k1 _),by simp,?_⟩
     simp [f1,f6,f7,f15,f16,f17,e8,e9]
     refine ⟨_,_,.inl (by simpa using k2 _),by simp,?_⟩
     simp [f1,f6,f7,f15,f16,f17,e8,e9]
     refine ⟨_,_,.inl (by simpa using k3 _),by simp,?_⟩
     simp [f1,f6,f7,f15,f16,f17,e8,e9,w1]
     exact ⟨j + 1,by omega,by omega,by simp [f1,f15,f16]⟩
 · rintro f ls s ⟨b0,b1,b2,b3,b4,b5,b6,b7,rfl,hf,⟨c1,c2,c3,c4⟩,hfr,⟨s0,s1,s2,s3⟩,hH⟩
   have f6:=hfr 6 (by decide); have f7:=hfr 7 (by decide)
   rw [g6] at f6; rw [g7] at f7
   obtain ⟨t,H⟩:=s
   simp only at f6 f7 hfr s0 s1 s2 s3 hH
   clear k1 k2 k3 h1 h2 h3 w1 hd hts hr2 j1 hj g1 g15 g16 g17
   have hc:((!b1 || b0) && (!b3 || b2) && (!b6 || (b1 && b4 && b5)) && (!b7 || (b3 && b6)) && !(b0 && b1 && b2 && b3 && b4 && b5 && b6 && b7)) = true:=by
     revert hf c1 c2 c3 c4
     clear hH s0 s1 s2 s3
     cases b0 <;> cases b1 <;> cases b2 <;> cases b3 <;> cases b4 <;> cases b5 <;> cases b6 <;> cases b7 <;> simp
   clear c1 c2 c3 c4
   cases b0 <;> cases b1 <;> cases b2 <;> cases b3 <;> cases b4 <;> cases b5 <;> cases b6 <;> cases b7 <;> first | (exact absurd hc (by decide)) | skip
   all_goals
     rcases hH with ⟨a,b,rfl⟩ | ⟨a,b,e8,rfl⟩ | ⟨a,b,e9,rfl⟩ | ⟨a,b,e8,e9,rfl⟩ | ⟨a,b,e8,e9,rfl⟩ <;> first | (exact absurd a (by decide)) | (exact absurd b (by decide)) | skip
   all_goals
     refine ⟨by decide +kernel,fun i hi=>?_⟩
     have hlt:i < 8:=by
       unfold Region.ready at hi
       exact List.mem_range.1 (List.mem_filter.1 hi).1
     obtain rfl | rfl | rfl | rfl | rfl | rfl | rfl | rfl:i = 0 ∨ i = 1 ∨ i = 2 ∨ i = 3 ∨ i = 4 ∨ i = 5 ∨ i = 6 ∨ i = 7:=by omega
   all_goals first | (exact absurd hi (by decide +kernel)) | skip
   all_goals
     simp only [Bool.toNat_true,Bool.toNat_false] at hf
     try have q0:=s0 rfl
     try have q1:=s1 rfl
     try have q2:=s2 rfl
     try have q3:=s3 rfl
     simp [*]
     refine ⟨_,_,_,_,_,_,_,_,rfl,by simp only [Bool.toNat_true,Bool.toNat_false]; omega,by decide,?_,?_,?_⟩
     · intro k hk
       have:=hfr k hk
       simp only [List.mem_cons,not_or] at hk
       simp [upd,hk,this]
     · refine ⟨?_,?_,?_,?_⟩ <;> intro hb <;> first | (exact absurd hb (by decide)) | (simp [upd]; done) | (simp [upd, *]; done)
     · simp [upd,zC, *]
end Go.Proofs.YtpmmnnaaoideeaaGreat

/- The law of Setups, by the program. -/
namespace Go.Proofs.YtpmmnnaaoideeaaGreat
open Go Go.Am Go.Wk
theorem rdT_elem2 {cs:List AVal} (h:Rds csT cs):∃ a:Tun,(okT a ∧ smT a) ∧ cs = cellsT a:=by
 obtain ⟨a1,r,rfl,h,w1⟩:=Rds_int h
 obtain ⟨a2,r,rfl,h,w2⟩:=Rds_int h
 obtain ⟨a3,r,rfl,h,w3⟩:=Rds_int h
 obtain ⟨b1,r,rfl,h,w4⟩:=Rds_int h
 obtain ⟨b2,r,rfl,h,w5⟩:=Rds_int h
 obtain ⟨b3,r,rfl,h,w6⟩:=Rds_int h
 obtain ⟨b4,r,rfl,h,_⟩:=Rds_int h
 obtain ⟨b5,r,rfl,h,_⟩:=Rds_int h
 obtain ⟨b6,r,rfl,h,_⟩:=Rds_int h
 obtain ⟨l1,r,rfl,h,z1⟩:=Rds_sl (enc:=encI) h (fun y cs h1 h=>dec_i h1 h)
 obtain ⟨l2,r,rfl,h,z2⟩:=Rds_sl (enc:=encI) h (fun y cs h1 h=>dec_i h1 h)
 obtain ⟨l3,r,rfl,h,z3⟩:=Rds_sl (enc:=encI) h (fun y cs h1 h=>dec_i h1 h)
 obtain rfl:=Rds_nil h
 have:=reach_eq
 refine ⟨⟨a1,a2,a3,⟨b1,b2,b3,b4,b5,b6,l1,l2⟩,l3⟩,⟨⟨⟨wf_i64 w1,wf_i64 w2,wf_i64 w3⟩,⟨wf_i64 w4,wf_i64 w5,wf_i64 w6⟩,?_,?_,?_⟩,⟨?_,?_,?_⟩⟩,rfl⟩ <;> simp only <;> omega
theorem rd_T2 {x:AVal} (h:RdA tyT x):∃ t:Tun,x = encT t ∧ okT t ∧ smT t:=by
 obtain ⟨cs,h1,h⟩:=h
 obtain ⟨t,ht,rfl⟩:=rdT_elem2 h
 exact ⟨t,by simpa [tyT] using h1,ht⟩
theorem rd_Ts2 {x:AVal} (h:RdA tyTs x):∃ l:List Tun,x = .sl 12 (l.map encT) .sh ∧ l.length < 9223372036854775807 ∧ ∀ a ∈ l,okT a ∧ smT a:=by
 obtain ⟨cs,h1,h2⟩:=h
 simp only [tyTs,Rds,Rd] at h2
 obtain ⟨y,r,rfl,⟨xs,rfl,hl,hx⟩,rfl⟩:=h2
 simp [tyTs] at h1
 subst h1
 obtain ⟨l,rfl,hok⟩:=decAllP (enc:=encT) (P:=fun a=>okT a ∧ smT a) xs fun y hy=>by
   obtain ⟨cs,h1,h2⟩:=hx y hy
   obtain ⟨t,ht,rfl⟩:=rdT_elem2 h2
   exact ⟨t,ht,by simpa using h1⟩
 have:=reach_eq
 simp only [List.length_map] at hl
 exact ⟨l,rfl,by omega,hok⟩
theorem suN_err {n:Int} {l:List Lnk} {ts:List Tun} {w:Tun} (h:(suN n l ts w).2.2.2 ≠ 0):(suN n l ts w).1 = [] ∧ (suN n l ts w).2.1 = [] ∧ (suN n l ts w).2.2.1 = []:=by
 unfold suN at h ⊢
 by_cases g1:chkT n l ts ≠ 0
 · rw [if_pos g1]; exact ⟨rfl,rfl,rfl⟩
 rw [if_neg g1] at h ⊢
 by_cases g2:wantE n ts w ≠ 0
 · rw [if_pos g2]; exact ⟨rfl,rfl,rfl⟩
 rw [if_neg g2] at h ⊢
 by_cases g3:(routeN n l w.From w.To w.W).2.2 ≠ 0
 · rw [if_pos g3]; exact ⟨rfl,rfl,rfl⟩
 rw [if_neg g3] at h ⊢
 by_cases g4:(vicN l ts (routeN n l w.From w.To w.W).1 w.W).2 ≠ 0
 · rw [if_pos g4]; exact ⟨rfl,rfl,rfl⟩
 rw [if_neg g4] at h ⊢
 unfold su2 at h ⊢
 by_cases g5:(suV (vicN l ts (routeN n l w.From w.To w.W).1 w.W).1 [] ts l).2.2 ≠ 0
 · rw [if_pos g5]; exact ⟨rfl,rfl,rfl⟩
 rw [if_neg g5] at h ⊢
 by_cases g6:(resN (suV (vicN l ts (routeN n l w.From w.To w.W).1 w.W).1 [] ts l).1 (wP w (routeN n l w.From w.To w.W).1)).2 ≠ 0
 · rw [if_pos g6]; exact ⟨rfl,rfl,rfl⟩
 rw [if_neg g6] at h
 exact absurd rfl h
theorem suN_vs {n:Int} {l:List Lnk} {ts:List Tun} {w:Tun}:(suN n l ts w).2.2.1.length ≤ ts.length + 1:=by
 have hv:=vicN_len l ts (routeN n l w.From w.To w.W).1 w.W
 unfold suN
 split
 · simp
 · split
   · simp
   · split
     · simp
     · split
       · simp
       · unfold su2
         split
         · simp
         · split
           · simp
           · exact hv
theorem tdN_err1 {l:List Lnk} {ts:List Tun} {id:Int} (h:(tdN l ts id).2.2 ≠ 0):(tdN l ts id).1 = []:=by
 unfold tdN at h ⊢
 by_cases g:idT ts id < 0
 · rw [if_pos g]
 rw [if_neg g] at h ⊢
 simp only at h ⊢
 generalize (if (ts.getD (idT ts id).toNat tun0).P = [] then (l,0) else relN l (ts.getD (idT ts id).toNat tun0)) = q at h ⊢
 by_cases gq:q.2 = 0
 · simp [gq] at h
 · rw [if_pos gq]
set_option maxHeartbeats 16000000 in
set_option maxRecDepth 10000 in
theorem t4s (n:Int) (l:List Lnk) (k:Nat) (hk:l.length = k) (hF:∀ x ∈ l,okF x) (ts:List Tun) (r:Nat) (hr:ts.length = r) (hr2:r < 9223372036854775807) (hts:∀ t ∈ ts,okT t ∧ smT t) (w:Tun) (hw:okT w ∧ smT w) (id:Int) :
   CFun Tryz.prog 4 [.int .i64 n,.sl 13 (l.map encL) .sh,.sl 12 (ts.map encT) .sh,encT w,.int .i64 id] [] (.bool true) []:=by
 refine CFun.intro (tr:=[]) (fz:=[]) (n:=108) (rs:=[.tmp 10]) Tryz.func4 rfl (by kernel_rfl) rfl rfl mixed (by kernel_rfl) (by simp) (by simp) ?_
 have h7:=fun H=>t9.up' H rfl rfl
 obtain ⟨b1,h5,hb1⟩:=t8L n l k hk ts r hr hr2
 have h5:=fun H=>h5.up' H rfl rfl
 cases b1 with
 | true =>
   simp
   refine ⟨_,_,.inl (by simpa using h5 _),by simp,?_⟩
   simp
   refine ⟨_,_,.inl (by simpa using h7 _),by simp,?_⟩
   simp
 | false =>
 obtain ⟨c1,c2,c3,c4⟩:=hb1 rfl
 obtain ⟨b2,h5w,hb2⟩:=t8L n l k hk [w] 1 rfl (by omega)
 have h5w:=fun H=>(h5w.up' H rfl rfl).wk [.int .i64 n,.sl 13 (l.map encL) .sh,.sl 12 [encT w] .full] (by simp) (by simp)
 cases b2 with
 | true =>
   simp
   refine ⟨_,_,.inl (by simpa using h5 _),by simp,?_⟩
   simp
   refine ⟨_,_,.inl (by simpa using h5w _),by simp,?_⟩
   simp
   refine ⟨_,_,.inl (by simpa using h7 _),by simp,?_⟩
   simp
 | false =>
 obtain ⟨_,_,_,c5⟩:=hb2 rfl
 have c5:=c5 w (by simp)
 have h13:=fun H=>(t12 l k hk (by omega)).up' H rfl rfl
 by_cases b3:l.any bigL = true
 · rw [b3] at h13
   simp
   refine ⟨_,_,.inl (by simpa using h5 _),by simp,?_⟩
   simp
   refine ⟨_,_,.inl (by simpa using h5w _),by simp,?_⟩
   simp
   refine ⟨_,_,.inl (by simpa using h13 _),by simp,?_⟩
   simp
   refine ⟨_,_,.inl (by simpa using h7 _),by simp,?_⟩
   simp
 have b3':l.any bigL = false:=by simpa using b3
 rw [b3'] at h13
 have hB:=big_false b3'
 have hokn:∀ t ∈ ts,okTn t ∧ t.P.length ≤ 30:=fun t ht=>⟨⟨by have:=(c4 t ht).1; omega,(hts t ht).1.2.2.2.1,by have:=(c4 t ht).2; omega⟩,(c4 t ht).1⟩
 have hpl:∀ t ∈ ts,t.P.length ≤ 30:=fun t ht=>(c4 t ht).1
 obtain ⟨hwo,hws⟩:=hw
 have hnat:chkT n l ts = 0 → ∃ N:Nat,n = N:=fun g=>by
   obtain ⟨n1,_,_,_,_⟩:=check_links (chk_parts g).1
   exact ⟨n.toNat,by omega⟩
 have h14:=fun H=>(t24 n l k hk (by omega) hF ts r hr (by omega) (fun t ht=>⟨hokn t ht,(hts t ht).2,(hts t ht).1.1.1⟩) w hwo.2.2.2.1 hwo.2.2.2.2 hwo.1.1 (fun g1 g2 g3=>by
   have hinv:=Inv.of g1 hpl
   obtain ⟨N,rfl⟩:=hnat g1
   obtain ⟨w1,w2,w3,w4⟩:=want_parts g2
   obtain ⟨o1,o2⟩:=ends_out w4
   have hck:=(checkE_con hinv.ck w.W).1
   rw [w3] at hck
   obtain ⟨_,_,_,_,_,p6⟩:=routeN_path hck o1 o2 g3
   have hA:=hinv.okA
   refine ⟨hB,fun u hu=>⟨(hA u hu).p,(hA u hu).b1,?_⟩,by omega,(tuns_iff.1 hinv.tu).2.1,fun u hu=>((tuns_iff.1 hinv.tu).1 u hu).1,w1,⟨?_,?_,?_⟩⟩
   · have h1:=(hA u hu).h0; have h2:=(hA u hu).h7; unfold inI; omega
   · simp only [wP]; omega
   · exact hws.2.1
   · exact hws.2.2) (fun g=>(chk_parts g).1) (by have:=vicN_len l ts (routeN n l w.From w.To w.W).1 w.W; omega)).up' H (by simp [noid,noid0]) rfl
 have h15:=fun H=>(t15s n (by omega) l k hk (by omega) ts r hr (by omega) hokn w hwo.2.2.2.1 hwo.2.2.2.2 ⟨hwo.2.1.2.2,hwo.2.1.1⟩).up' H (by simp [noid,noid0]) rfl
 have q1:(suN n l ts w).1.length < 1000000 ∧ (suN n l ts w).2.1.length < 1000000 ∧ ∀ t ∈ (suN n l ts w).2.1,t.P.length < 1000000 ∧ t.W.Avoid.length < 9223372036854775807 ∧ t.W.Thru.length < 9223372036854775807:=by
   by_cases h0:(suN n l ts w).2.2.2 = 0
   · have g1:chkT n l ts = 0:=by
       apply Classical.byContradiction
       intro g
       unfold suN at h0
       rw [if_pos g] at h0
       exact g h0
     obtain ⟨N,rfl⟩:=hnat g1
     obtain ⟨i1,i2,i3,_⟩:=suN_law (Inv.of g1 hpl) (by omega) h0
     refine ⟨by omega,by omega,fun t ht=>?_⟩
     obtain ⟨s1,s2,s3⟩:=i1.sm t ht
     exact ⟨s3,by have:=s2.2.1; omega,by have:=s2.2.2; omega⟩
   · obtain ⟨e1,e2,e3⟩:=suN_err h0
     rw [e1,e2]
     simp
 have q2:(suN n l ts w).2.2.1.length < 1000000:=by have:=suN_vs (n:=n) (l:=l) (ts:=ts) (w:=w); omega
 generalize suN n l ts w = S at *
 have k16:=fun H=>(t17 S.1 _ rfl (by omega)).up' H rfl rfl
 have k17:=fun H=>(t17s S.2.1 _ rfl (by omega) q1.2.2).up' H rfl rfl
 have k18:=fun H=>(c17 S.2.2.1 S.2.2.1 _ _ rfl rfl (by omega) (by omega)).up' H rfl rfl
 simp only [decide_true] at k18
 have h19:=fun H=>(t23 l k hk (by omega) hF ts r hr (by omega) (fun t ht=>⟨(hts t ht).2,by have:=hpl t ht; omega⟩) id).up' H (by simp [noid,noid0]) (by simp [noid,noid0])
 have h20:=fun H=>(t20f l k hk (by omega) hB ts r hr (by omega) (fun t ht=>⟨by have:=hpl t ht; omega,(hts t ht).1.2.1.2.2,(hts t ht).1.2.1.1⟩) id).up' H (by simp [noid,noid0]) (by simp [noid,noid0])
 have q3:(tdN l ts id).1.length < 1000000 ∧ (tdN l ts id).2.1.length < 1000000 ∧ ∀ t ∈ (tdN l ts id).2.1,t.P.length < 1000000 ∧ t.W.Avoid.length < 9223372036854775807 ∧ t.W.Thru.length < 9223372036854775807:=by
   have hs:=tdN_sub (l:=l) (ts:=ts) (id:=id)
   have hl:=hs.1.length_le
   refine ⟨?_,by omega,fun t ht=>?_⟩
   · by_cases h0:(tdN l ts id).2.2 = 0
     · have:=hs.2 h0; omega
     · rw [tdN_err1 h0]; simp
   · have hm:=hs.1.subset ht
     exact ⟨by have:=hpl t hm; omega,(hts t hm).1.2.2.2.1,(hts t hm).1.2.2.2.2⟩
 generalize tdN l ts id = D at *
 have m16:=fun H=>(t17 D.1 _ rfl (by omega)).up' H rfl rfl
 have m17:=fun H=>(t17s D.2.1 _ rfl (by omega) q3.2.2).up' H rfl rfl
 simp
 refine ⟨_,_,.inl (by simpa using h5 _),by simp,?_⟩
 simp
 refine ⟨_,_,.inl (by simpa using h5w _),by simp,?_⟩
 simp
 refine ⟨_,_,.inl (by simpa using h13 _),by simp,?_⟩
 simp
 refine ⟨_,_,.inl (by simpa using h14 _),by simp,?_⟩
 simp
 refine ⟨_,_,.inl (by simpa using h15 _),by simp,?_⟩
 simp
 refine ⟨_,_,.inl (by simpa using k16 _),by simp,?_⟩
 simp
 refine ⟨_,_,.inl (by simpa using k17 _),by simp,?_⟩
 simp
 refine ⟨_,_,.inl (by simpa using k18 _),by simp,?_⟩
 simp
 refine ⟨_,_,.inl (by simpa using h19 _),by simp,?_⟩
 simp
 refine ⟨_,_,.inl (by simpa using h20 _),by simp,?_⟩
 simp
 refine ⟨_,_,.inl (by simpa using h7 _),by simp,?_⟩
 simp
 refine ⟨_,_,.inl (by simpa using m16 _),by simp,?_⟩
 simp
 refine ⟨_,_,.inl (by simpa using m17 _),by simp,?_⟩
 simp
end Go.Proofs.YtpmmnnaaoideeaaGreat
