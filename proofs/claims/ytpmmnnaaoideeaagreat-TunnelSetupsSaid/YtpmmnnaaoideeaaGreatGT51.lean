/- The reference's freed and helps, by the program. -/
import Derived.Test.YtpmmnnaaoideeaaGreatGT48
import Derived.Test.YtpmmnnaaoideeaaGreatGT16
import Derived.Test.YtpmmnnaaoideeaaGreatGT20
set_option linter.unusedSimpArgs false
set_option linter.unusedVariables false
namespace Go.Proofs.YtpmmnnaaoideeaaGreat
open Go Go.Am Go.Wk
set_option maxHeartbeats 16000000 in
set_option maxRecDepth 10000 in
theorem t48 (l:List Lnk) (n:Nat) (hn:l.length = n) (hn2:n < 1000) (t:Tun) (m:Nat) (hm:t.P.length = m) (hm2:m ≤ 30) (hb:0 ≤ t.W.Band ∧ t.W.Band ≤ 1099511627776) (hI:inI t.W.Hold) (hF:∀ x ∈ l,∀ k,k < 8 → -1225899906842624 - 3298534883328000 ≤ x.Fr k ∧ x.Fr k ≤ 1225899906842624 + 3298534883328000) :
   CFun Tryz.prog 83 [.sl 13 (l.map encL) .sh,encT t] [] (.sl 13 ((chA t.W.Band t.W.Hold.toNat (usesL l t.P) l).map encL) .sh) []:=by
 refine CFun.intro (tr:=[100010]) (fz:=[(4,1,true)]) (n:=46) (rs:=[.tmp 4]) Tryz.func83 rfl (by kernel_rfl) rfl rfl mixed (by kernel_rfl) (by simp) (by simp) ?_
 have h39:=fun j H=>(t39 l n hn (by omega) t.P m hm (by omega) j).up' H rfl rfl
 have hul:(usesL l t.P).length ≤ 30:=by rw [usesL_len]; omega
 obtain ⟨h,hh⟩:∃ h:Nat,h = t.W.Hold.toNat:=⟨_,rfl⟩
 have hmx:(if t.W.Hold < 0 then (0:Int) else t.W.Hold) = (h:Int):=by rw [hh]; split <;> omega
 unfold inI at hI
 rw [← hh]
 by_cases hne:l = []
 · subst hne
   have he:chA t.W.Band h (usesL [] t.P) [] = []:=rfl
   rw [he]
   simp
   refine LoopK.intro (tr:=[100010]) mixed (by kernel_rfl) (fun _:Nat=>[(5,.sl 13 [] .sh),(12,.int .i64 0),(13,.int .i64 0)]) (fun _=>[]) (fun _=>True) (fun i=>i) 0 trivial (by simp) ?_
   intro _ _
   simp
 have s1:n * 104 ≤ 140737488355328:=by omega
 have s2:n ≤ 140737488355328:=by omega
 have s3:0 < n:=by rw [← hn]; exact List.length_pos_iff.2 hne
 have s4:(l.map encL).isEmpty = false:=by cases l <;> simp_all
 have s5:(l.map encL).flatMap AVal.cells = rowC cellsL l:=rowC_map (ce:=cellsL) l
 have s6:(rowC cellsL l).map AVal.dis = rowC cellsL l:=encL_enc.rowDis l
 have hle:=fun k (l:List Lnk)=>encL_enc.rowLe k l
 have hrl:=encL_enc.rowLen
 generalize usesL l t.P = uv at *
 simp [hne,s1,s2,s3,s4,hn]
 rw [s5,s6]
 refine LoopK.intro (tr:=[100010]) mixed (by kernel_rfl) (fun s:Nat × List Lnk=>[(0,.sl 13 (l.map encL) .sh),(3,.ptr 0 0),(5,.osl 1 0 n none 13),(12,.int .i64 n),(13,.int .i64 s.1)]) (fun s=>[cellsT t,rowC cellsL s.2])
   (fun s=>s.1 ≤ n ∧ s.2.length = n ∧ ∀ (j:Nat) (x:Lnk),l[j]? = some x → s.2[j]? = some (if j < s.1 then chR h (t.W.Band * cntI j uv) x else x)) (fun s=>n - s.1) (0,l) ?_ ?_ ?_
 · exact ⟨Nat.zero_le _,hn,fun j x hx=>by rw [if_neg (by simp)]; exact hx⟩
 · simp [hle]
 rintro ⟨i,cur⟩ ⟨q1,q2,q3⟩
 simp only at q1 q2 q3
 by_cases hi:i < n
 case neg =>
   have:i = n:=by omega
   subst this
   have hcur:cur = chA t.W.Band h uv l:=by
     apply List.ext_getElem?
     intro j
     rw [chA_get]
     cases hx:l[j]? with
     | none =>
       rw [List.getElem?_eq_none_iff] at hx
       rw [List.getElem?_eq_none (by omega)]
       rfl
     | some x =>
       rw [q3 j x hx,if_pos (by have:=(List.getElem?_eq_some_iff.1 hx).1; omega)]
       rfl
   rw [← hcur]
   have k4:=encL_enc.chunk cur i q2
   have k3:∀ x ∈ rowC cellsL cur,x.tree = true:=by simpa using encL_enc.rowTree cur
   have hn0:0 < i:=by omega
   have hrc:=hrl cur
   rw [q2] at hrc
   have k2:(rowC cellsL cur).take (i * 13) = rowC cellsL cur:=List.take_of_length_le (by omega)
   simp [hi,hrc,k2,k4,hn0]
   rw [if_pos k3]
   simp
 obtain ⟨x,hx⟩:∃ x,l[i]? = some x:=⟨_,List.getElem?_eq_getElem (by omega)⟩
 have hcx:=q3 i x hx
 rw [if_neg (by omega)] at hcx
 have w1:IntKind.i64.wrap ((i:Int) + 1) = i + 1:=wrap_in (by omega)
 have hxb:=hF x (List.mem_of_getElem? hx)
 have k39:=h39 i
 have hcl:cntI i uv ≤ 30:=by have:=cntI_le i uv; omega
 have hmb:=mul_bd hb hcl
 obtain ⟨V,hV⟩:∃ V:Int,V = t.W.Band * (cntI i uv:Int):=⟨_,rfl⟩
 rw [← hV] at hmb
 have hV2:(cntI i uv:Int) * t.W.Band = V:=by rw [hV,Int.mul_comm]
 simp [hi,hmx]
 refine LoopK.intro (tr:=[100010]) mixed (by kernel_rfl) (fun s:Nat × Lnk=>[(0,.sl 13 (l.map encL) .sh),(3,.ptr 0 0),(5,.osl 1 0 n none 13),(6,.int .i64 i),(7,.int .i64 s.1),(12,.int .i64 n),(13,.int .i64 i)]) (fun s=>[cellsT t,rowC cellsL (cur.set i s.2)])
   (fun s=>h ≤ s.1 ∧ (s.1 ≤ 8 ∨ s.1 = h) ∧ (∀ k,s.1 ≤ k → s.2.Fr k = x.Fr k) ∧ chR h V x = chR s.1 V s.2) (fun s=>8 - s.1) (h,x) ?_ ?_ ?_
 · exact ⟨Nat.le_refl _,.inr rfl,fun _ _=>rfl,rfl⟩
 · have hsame:cur.set i x = cur:=by
     apply List.ext_getElem?
     intro j'
     rw [List.getElem?_set]
     split
     · rename_i e; subst e; rw [if_pos (by omega),hcx]
     · rfl
   simp [hsame,hle]
 rintro ⟨k,z⟩ ⟨p1,p2,p5,p4⟩
 simp only at p1 p2 p4 p5
 have hsl:(cur.set i z).length = n:=by rw [List.length_set]; exact q2
 by_cases hk:k < 8
 case neg =>
   have hk':¬ (k:Int) < 8:=by omega
   rw [chR_ge (h:=k) (by omega)] at p4
   simp [hk,hk',w1]
   refine ⟨i + 1,cur.set i z,⟨by omega,hsl,fun j y hy=>?_⟩,by omega,by simp [hle]⟩
   rw [List.getElem?_set]
   by_cases e:i = j
   · subst e
     rw [hx] at hy
     injection hy with hy
     subst hy
     rw [if_pos rfl,if_pos (by omega),if_pos (by omega),← hV,p4]
   · rw [if_neg e,q3 j y hy]
     by_cases e2:j < i
     · rw [if_pos e2,if_pos (by omega)]
     · rw [if_neg e2,if_neg (by omega)]
 have hk':(k:Int) < 8:=by omega
 have hk7:k ≤ 7:=by omega
 have hz:(cur.set i z)[i]? = some z:=by rw [List.getElem?_set_self (by omega)]
 have hg:=rowL_get hz hk
 have hset:=rowL_set hz hk (z.Fr k + V)
 rw [List.set_set] at hset
 have hrc:=hrl (cur.set i z)
 rw [hsl] at hrc
 have hzx:=p5 k (Nat.le_refl _)
 have hxk:=hxb k hk
 have w2:IntKind.i64.wrap ((k:Int) + 1) = k + 1:=wrap_in (by omega)
 have w3:IntKind.i64.wrap (z.Fr k + V) = z.Fr k + V:=wrap_in (by omega)
 have w5:IntKind.i64.wrap V = V:=wrap_in (by omega)
 have b1:i * 13 + 4 + k < n * 13:=by omega
 have b2:i * 13 + 4 + k + 1 ≤ n * 13:=by omega
 have hst:=chR_step hk V z
 generalize cntI i uv = ct at *
 simp [hk,hk',hk7,hi,hg,gE hg,hrc,b1,b2]
 refine ⟨_,_,.inl (by simpa [cargs] using k39 _),by simp [cargs],?_⟩
 simp [hk,hk',hk7,hi,hg,gE hg,hrc,b1,b2,hV2,w5,w3]
 simp [hset,w2]
 refine ⟨k + 1,setF z k (z.Fr k + V),⟨by omega,by omega,fun j hj=>?_,by rw [hst]; exact p4⟩,by omega,by simp [hle]⟩
 show updF z.Fr k (z.Fr k + V) j = x.Fr j
 unfold updF
 rw [if_neg (by omega)]
 exact p5 j (by omega)
set_option maxHeartbeats 16000000 in
set_option maxRecDepth 10000 in
theorem t47 (l:List Lnk) (n:Nat) (hn:l.length = n) (hn2:n < 1000) (t:Tun) (ht:t.P.length ≤ 30) (p:List Int) (hp:p.length ≤ 1000) (c:Con) (hus:∀ u ∈ usesL l p,0 ≤ u ∧ u < n) :
   CFun Tryz.prog 82 [.sl 13 (l.map encL) .sh,encT t,.sl 1 (p.map encI) .sh,encC c] [] (.bool (!(decide (t.W.Band ≤ 0) || decide (t.W.Hold ≤ c.Setup)) && (usesL l t.P).any (inF ((usesL l p).filter fun x=>!fullP l c.Band x)))) []:=by
 refine CFun.intro (tr:=[]) (fz:=[]) (n:=52) (rs:=[.tmp 8]) Tryz.func82 rfl (by kernel_rfl) rfl rfl mixed (by kernel_rfl) (by simp) (by simp) ?_
 have h1:=fun j H=>(t39 l n hn (by omega) p p.length rfl (by omega) j).up' H rfl rfl
 have h2:=fun j H=>(t39 l n hn (by omega) t.P t.P.length rfl (by omega) j).up' H rfl rfl
 by_cases g1:t.W.Band ≤ 0
 · simp [g1]
 by_cases g2:t.W.Hold ≤ c.Setup
 · simp [g1,g2]
 have hrng:=usesL_range l t.P
 obtain ⟨T,hT⟩:∃ T,T = (usesL l t.P).any (inF ((usesL l p).filter fun x=>!fullP l c.Band x)):=⟨_,rfl⟩
 rw [← hT]
 generalize usesL l t.P = uv at *
 generalize usesL l p = us at *
 have hfu:∀ (i:Nat) (x:Lnk),l[i]? = some x → ((i:Int) ∈ us.filter (fun x=>!fullP l c.Band x) ↔ (i:Int) ∈ us ∧ x.Fr 7 < c.Band):=by
   intro i x hx
   rw [List.mem_filter]
   have:fullP l c.Band i = decide (c.Band ≤ x.Fr 7):=by
     unfold fullP
     rw [Int.toNat_natCast,List.getD_eq_getElem?_getD,hx]
     rfl
   rw [this]
   simp only [Bool.not_eq_true',decide_eq_false_iff_not]
   constructor
   · rintro ⟨a,b⟩; exact ⟨a,by omega⟩
   · rintro ⟨a,b⟩; exact ⟨a,by omega⟩
 have yes:∀ (i:Nat) (x:Lnk),l[i]? = some x → 0 < cntI i us → x.Fr 7 < c.Band → 0 < cntI i uv → T = true:=by
   intro i x hx k1 k2 k3
   rw [hT,List.any_eq_true]
   refine ⟨i,cntI_pos.1 k3,?_⟩
   unfold inF
   have hm:=(hfu i x hx).2 ⟨cntI_pos.1 k1,k2⟩
   rw [← hasB_iff] at hm
   rw [hm]
   simp
 have no:(∀ (i:Nat) (x:Lnk),l[i]? = some x → ¬ (0 < cntI i us ∧ x.Fr 7 < c.Band ∧ 0 < cntI i uv)) → T = false:=by
   intro hno
   rw [hT,List.any_eq_false]
   intro u hu hin
   unfold inF at hin
   simp only [Bool.and_eq_true,decide_eq_true_eq] at hin
   obtain ⟨e1,e2⟩:=hin
   obtain ⟨i,rfl⟩:∃ i:Nat,u = i:=⟨u.toNat,by omega⟩
   rw [hasB_iff] at e2
   have hlt:=(hrng i hu).2
   obtain ⟨x,hx⟩:∃ x,l[i]? = some x:=⟨_,List.getElem?_eq_getElem (by omega)⟩
   obtain ⟨e3,e4⟩:=(hfu i x hx).1 e2
   exact hno i x hx ⟨cntI_pos.2 e3,e4,cntI_pos.2 hu⟩
 clear hT hfu hrng hus
 simp [g1,g2,hn]
 refine LoopK.intro (tr:=[]) mixed (by kernel_rfl) (fun i:Nat=>[(0,.sl 13 (l.map encL) .sh),(2,.sl 1 (p.map encI) .sh),(5,.ptr 0 0),(7,.ptr 1 0),(23,.sl 13 (l.map encL) .sh),(24,.int .i64 n),(25,.int .i64 i)]) (fun _=>[cellsT t,cellsC c])
   (fun i=>i ≤ n ∧ ∀ (j:Nat) (x:Lnk),j < i → l[j]? = some x → 0 < cntI j us → x.Fr 7 < c.Band → cntI j uv = 0) (fun i=>n - i) 0 ?_ ?_ ?_
 · exact ⟨by omega,fun j x hj=>by omega⟩
 · simp
 rintro i ⟨i1,i2⟩
 by_cases hi:i < n
 case neg =>
   have:=no fun j x hx h=>by have:=i2 j x (by have:=(List.getElem?_eq_some_iff.1 hx).1; omega) hx h.1 h.2.1; omega
   simp [hi,this]
 obtain ⟨x,hx⟩:∃ x,l[i]? = some x:=⟨_,List.getElem?_eq_getElem (by omega)⟩
 have w1:IntKind.i64.wrap ((i:Int) + 1) = i + 1:=wrap_in (by omega)
 have h7:=cellsL_fr x (i:=7) (by omega)
 have k1:=h1 i
 have k2:=h2 i
 have hy:=yes i x hx
 have next:¬ (0 < cntI i us ∧ x.Fr 7 < c.Band ∧ 0 < cntI i uv) → ∀ (j:Nat) (y:Lnk),j < i + 1 → l[j]? = some y → 0 < cntI j us → y.Fr 7 < c.Band → cntI j uv = 0:=by
   intro hg j y hj hyy e1 e2
   by_cases e:j = i
   · subst e
     rw [hx] at hyy
     injection hyy with hyy
     subst hyy
     exact Nat.eq_zero_of_not_pos fun e3=>hg ⟨e1,e2,e3⟩
   · exact i2 j y (by omega) hyy e1 e2
 generalize cntI i us = c1 at *
 generalize cntI i uv = c2 at *
 simp [hi,hn,hx,gE hx]
 refine ⟨_,_,.inl (by simpa [cargs] using k1 _),by simp [cargs],?_⟩
 by_cases d1:0 < c1
 case neg =>
   have d1':¬ (0:Int) < c1:=by omega
   simp [d1,d1',w1]
   exact ⟨i + 1,⟨by omega,next (fun h=>d1 h.1)⟩,by omega,by simp⟩
 have d1':(0:Int) < c1:=by omega
 by_cases d2:x.Fr 7 < c.Band
 case neg =>
   simp [d1,d1',h7,d2,w1]
   exact ⟨i + 1,⟨by omega,next (fun h=>d2 h.2.1)⟩,by omega,by simp⟩
 simp [d1,d1',h7,d2]
 refine ⟨_,_,.inl (by simpa [cargs] using k2 _),by simp [cargs],?_⟩
 by_cases d3:0 < c2
 · have d3':(0:Int) < c2:=by omega
   have:=hy d1 d2 d3
   simp [d3,d3',this]
 · have d3':¬ (0:Int) < c2:=by omega
   simp [d3,d3',w1]
   exact ⟨i + 1,⟨by omega,next (fun h=>d3 h.2.2)⟩,by omega,by simp⟩
end Go.Proofs.YtpmmnnaaoideeaaGreat

/- The reference's Victims, by the program. -/
namespace Go.Proofs.YtpmmnnaaoideeaaGreat
open Go Go.Am Go.Wk
def bsV (R:Nat) (ch:List Int):List AVal:=(List.range R).map fun i:Nat=>AVal.bool (hasB ch (i:Int))
theorem bsV_len (R:Nat) (ch:List Int):(bsV R ch).length = R:=by simp [bsV]
theorem bsV_get {R i:Nat} (h:i < R) (ch:List Int):(bsV R ch)[i]? = some (.bool (hasB ch i)):=by
 simp [bsV,h]
theorem bsV_tree (R:Nat) (ch:List Int):(bsV R ch).all AVal.tree = true:=by
 unfold bsV; rw [List.all_map]; simp [AVal.tree]
theorem bsV_nil (R:Nat):bsV R [] = List.replicate R (.bool false):=by
 apply List.ext_getElem?
 intro j
 by_cases h:j < R
 · rw [bsV_get h]; simp [h,hasB]
 · rw [List.getElem?_eq_none (by rw [bsV_len]; omega),List.getElem?_eq_none (by simp; omega)]
theorem bsV_set {R j:Nat} (ch:List Int):(bsV R ch).set j (.bool true) = bsV R (ch ++ [(j:Int)]):=by
 apply List.ext_getElem?
 intro i
 by_cases h:i < R
 · rw [List.getElem?_set,bsV_get h]
   by_cases e:j = i
   · subst e
     rw [if_pos rfl,if_pos (by rw [bsV_len]; exact h)]
     have:hasB (ch ++ [(j:Int)]) j = true:=by rw [hasB_iff]; simp
     rw [bsV_get h,this]
   · rw [if_neg e,bsV_get h]
     congr 2
     rw [Bool.eq_iff_iff,hasB_iff,hasB_iff]
     simp
     omega
 · rw [List.getElem?_eq_none (by rw [List.length_set,bsV_len]; omega),List.getElem?_eq_none (by rw [bsV_len]; omega)]
theorem room_fu (r:List Lnk) (b:Int) (us:List Int):roomB r b us = decide ((us.filter fun x=>!fullP r b x) = []):=by
 rw [Bool.eq_iff_iff,decide_eq_true_eq,List.filter_eq_nil_iff]
 unfold roomB
 rw [List.all_eq_true]
 constructor
 · intro h u hu; have:=h u hu; unfold fullP; simp at this ⊢; omega
 · intro h u hu; have:=h u hu; unfold fullP at this; simp at this ⊢; omega
set_option maxHeartbeats 32000000 in
set_option maxRecDepth 10000 in
theorem t19 (l:List Lnk) (n:Nat) (hn:l.length = n) (hn2:n < 1000) (hB:∀ x ∈ l,∀ k,k < 8 → -1125899906842624 ≤ x.Fr k ∧ x.Fr k ≤ 1125899906842624) (ts:List Tun) (R:Nat) (hr:ts.length = R) (hr2:R ≤ 100)
   (hts:∀ t ∈ ts,t.P.length ≤ 30 ∧ t.W.Band ≤ 1099511627776 ∧ inI t.W.Hold) (p:List Int) (m:Nat) (hm:p.length = m) (hm2:m ≤ 1000) (c:Con) :
   CFun Tryz.prog 50 [.sl 13 (l.map encL) .sh,.sl 12 (ts.map encT) .sh,.sl 1 (p.map encI) .sh,encC c] [] (.tup [.sl 1 ((vicN l ts p c).1.map encI) .sh,.int .i64 (vicN l ts p c).2]) []:=by
 refine CFun.intro (tr:=[100,100031]) (fz:=[]) (n:=115) (rs:=[.tmp 8,.tmp 9]) Tryz.func50 rfl (by kernel_rfl) rfl rfl mixed (by kernel_rfl) (by simp) (by simp) ?_
 have h36:=fun H=>(t36 c.Setup c.Band).up' H rfl rfl
 have h31:=fun H=>(t31 l n hn (by omega) p m hm (by omega)).up' H rfl rfl
 unfold vicN
 cases ha:amtB c.Setup c.Band with
 | false =>
   rw [ha] at h36
   simp
   refine ⟨_,_,.inl (by simpa using h36 _),by simp,?_⟩
   simp
 | true =>
 rw [ha] at h36
 rw [if_neg (by simp)]
 by_cases g2:hasB (usesL l p) (-1) = true
 · rw [g2] at h31
   rw [if_pos g2]
   simp
   refine ⟨_,_,.inl (by simpa using h36 _),by simp,?_⟩
   simp
   refine ⟨_,_,.inl (by simpa using h31 _),by simp,?_⟩
   simp
 have g2':hasB (usesL l p) (-1) = false:=by simpa using g2
 rw [g2'] at h31
 rw [if_neg g2]
 have hus:∀ u ∈ usesL l p,0 ≤ u ∧ u < n:=by
   intro u hu
   have h1:=usesL_range l p u hu
   rw [hasB_iff] at g2
   have:u ≠ -1:=fun e=>g2 (e ▸ hu)
   omega
 have h38:=fun (r:List Lnk) (h1:r.length = n) (h2:∀ q,usesL r q = usesL l q) H=>(t38 r n h1 (by omega) p m hm (by omega) c.Band (by rw [h2,h1]; exact hus)).up' H rfl rfl
 obtain ⟨us,hU⟩:∃ us,us = usesL l p:=⟨_,rfl⟩
 have h38:=fun (r:List Lnk) (h1:r.length = n) (h2:∀ q,usesL r q = usesL l q) H=>by have:=h38 r h1 h2 H; rw [h2 p,← hU] at this; exact this
 rw [← hU] at hus ⊢
 obtain ⟨T,hT⟩:∃ T,T = vicL l ts us c (ts.length + 1) l [] []:=⟨_,rfl⟩
 rw [← hT]
 simp [hr]
 refine ⟨_,_,.inl (by simpa using h36 _),by simp,?_⟩
 simp [hr]
 refine ⟨_,_,.inl (by simpa using h31 _),by simp,?_⟩
 simp [hr]
 clear h36 h31
 refine LoopK.introS (tr:=[100,100031]) mixed (by kernel_rfl)
   (fun i:Nat=>[(0,.sl 13 (l.map encL) .sh),(1,.sl 12 (ts.map encT) .sh),(2,.sl 1 (p.map encI) .sh),(7,.ptr 0 0),(10,.sl 0 [] .full),(11,if i = 0 then .sl 0 [] .full else .osl 1 0 i none 1),(26,.int .i64 R),(27,.int .i64 i)])
   (fun i=>if i = 0 then [cellsC c] else [cellsC c,List.replicate i (.bool false)]) (fun i=>i ≤ R) (fun i=>R - i) 0 ?_ ?_ ?_
 · simp
 · simp
 intro i h1
 generalize hPQ:LoopPostS _ _ _ _ _ _ _ = PQ
 have hrt:∀ k,(List.replicate k (AVal.bool false)).all AVal.tree = true:=fun k=>by simp [AVal.tree]
 by_cases hi:i < R
 case pos =>
   have w1:IntKind.i64.wrap ((i:Int) + 1) = i + 1:=wrap_in (by omega)
   have s1:i + 1 ≤ 140737488355328:=by omega
   have hi':(i:Int) < R:=by omega
   by_cases hz:i = 0
   · subst hz
     have w0:IntKind.i64.wrap 1 = 1:=by decide
     simp [hi,w0]
     rw [← hPQ]
     simp only [LoopPostS]
     refine ⟨1,by omega,by omega,.inl ?_⟩
     simp
   · have hi0:0 < i:=by omega
     have hL:=treeCellsS (σ:=swp 1 2) (N:=3) (n:=2) (hrt (i + 1))
     simp [hi,hi',hi0,hz,s1,w1]
     rw [← hPQ]
     simp only [LoopPostS]
     refine ⟨i + 1,by omega,by omega,.inr ⟨1,2,by simp,by simp,by simp,by simp,by simp,?_,?_⟩⟩
     · simp [LeLookS,ren,ren0,swp]
     · simp only [Nat.succ_ne_zero,if_false]
       rw [← List.replicate_succ']
       simp [LeBoxesS,swpH,ren,ren0,swp,LeCellsS]
       simpa using hL
 have hiR:i = R:=by omega
 subst hiR
 by_cases hz:i = 0
 · subst hz
   have hts0:ts = []:=List.length_eq_zero_iff.1 hr
   subst hts0
   have k38:=h38 l hn (fun _=>rfl)
   rw [room_fu] at k38
   have hT2:T = if (us.filter fun x=>!fullP l c.Band x) = [] then ([],0) else ([],19):=by
     rw [hT]
     simp only [List.length_nil,vicL,vicF]
     split
     · rfl
     · rw [if_pos (by decide)]
   simp [hi]
   rw [← hPQ]
   simp only [LoopPostS]
   simp
   refine LoopK.intro (tr:=[100,100031]) mixed (by kernel_rfl) (fun _:Nat=>[(0,.sl 13 (l.map encL) .sh),(1,.sl 12 [] .sh),(2,.sl 1 (p.map encI) .sh),(7,.ptr 0 0),(10,.sl 1 [] .sh)]) (fun _=>[cellsC c]) (fun _=>True) (fun i=>i) 0 trivial (by simp) ?_
   intro _ _
   by_cases q0:(us.filter fun x=>!fullP l c.Band x) = []
   · rw [if_pos q0] at hT2
     rw [decide_eq_true q0] at k38
     simp
     refine ⟨_,_,.inl (by simpa using k38 _),by simp,?_⟩
     simp [hT2]
   · rw [if_neg q0] at hT2
     rw [decide_eq_false q0] at k38
     simp
     refine ⟨_,_,.inl (by simpa using k38 _),by simp,?_⟩
     simp
     refine LoopK.intro (tr:=[100,100031]) mixed (by kernel_rfl) (fun _:Nat=>[(12,.int .i64 (-1)),(39,.int .i64 0),(40,.int .i64 0)]) (fun _=>[]) (fun _=>True) (fun i=>i) 0 trivial (by simp) ?_
     intro _ _
     simp [hT2]
 have hle:=fun (k:Nat) ch=>treeCells_le k (bsV_tree i ch)
 have hR0:0 < i:=by omega
 simp [hi,hz]
 rw [← hPQ]
 simp only [LoopPostS]
 simp [hz]
 clear hPQ
 rw [← bsV_nil]
 refine LoopK.intro (tr:=[100,100031]) mixed (by kernel_rfl) (fun s:VS=>[(0,.sl 13 (s.r.map encL) .sh),(1,.sl 12 (ts.map encT) .sh),(2,.sl 1 (p.map encI) .sh),(7,.ptr 0 0),(10,.sl 1 (s.ids.map encI) .own),(11,.osl 1 0 i none 1)]) (fun s=>[cellsC c,bsV i s.ch])
   (fun s=>(s.r.length = n ∧ (∀ q,usesL s.r q = usesL l q) ∧ s.ids.length = s.ch.length ∧ s.ch.Nodup ∧ ∀ x ∈ s.ch,0 ≤ x ∧ x < i) ∧ (∀ x ∈ s.r,∀ k,k < 8 → -1125899906842624 - 32985348833280 * s.ch.length ≤ x.Fr k ∧ x.Fr k ≤ 1125899906842624 + 32985348833280 * s.ch.length) ∧ T = vicL l ts us c (ts.length + 1 - s.ch.length) s.r s.ch s.ids) (fun s=>i + 1 - s.ch.length) ⟨l,[],[]⟩ ?_ ?_ ?_
 · exact ⟨⟨hn,fun _=>rfl,rfl,List.nodup_nil,by simp⟩,fun x hx k hk=>by have:=hB x hx k hk; simp; omega,hT⟩
 · simp [hle]
 clear hB hT
 rintro ⟨rm,ch,ids⟩ ⟨⟨v1,v7,v2,v3,v4⟩,v5,v6⟩
 simp only at v1 v2 v3 v4 v5 v6 v7
 have hchl:=nodup_len_int v3 v4
 rw [hr,show i + 1 - ch.length = (i - ch.length) + 1 by omega] at v6
 simp only [vicL] at v6
 have k38:=h38 rm v1 v7
 rw [room_fu] at k38
 have h47:=fun t (ht:t ∈ ts) H=>(t47 rm n v1 hn2 t (hts t ht).1 p (by omega) c (by rw [v7,← hU]; exact hus)).up' H (by simp [noid,noid0]) rfl
 simp only [v7,← hU] at h47
 have hcdef:∀ (k:Nat) (t:Tun),candP l (us.filter fun x=>!fullP rm c.Band x) c ch k t = (!(decide (t.W.Band ≤ 0) || decide (t.W.Hold ≤ c.Setup) || hasB ch k) && (usesL l t.P).any (inF (us.filter fun x=>!fullP rm c.Band x))):=fun _ _=>rfl
 have hv:vicF (candP l (us.filter fun x=>!fullP rm c.Band x) c ch) ts (-1) 0 ts = -1 ∨ ∃ (j:Nat) (t:Tun),vicF (candP l (us.filter fun x=>!fullP rm c.Band x) c ch) ts (-1) 0 ts = j ∧ ts[j]? = some t ∧ candP l (us.filter fun x=>!fullP rm c.Band x) c ch j t = true:=vicF_spec _ ts ts 0 (-1) (by simp)
 generalize (us.filter fun x=>!fullP rm c.Band x) = fu at *
 have hcand:∀ (j:Nat) (t:Tun),candP l fu c ch j t = true → 0 < t.W.Band ∧ (j:Int) ∉ ch:=by
   intro j t h
   unfold candP at h
   simp only [Bool.and_eq_true,Bool.not_eq_true',Bool.or_eq_false_iff,decide_eq_false_iff_not] at h
   refine ⟨by omega,fun hc=>?_⟩
   rw [← hasB_iff] at hc
   rw [hc] at h
   simp at h
 generalize candP l fu c ch = cand at *
 by_cases q0:fu = []
 · rw [if_pos q0] at v6
   rw [decide_eq_true q0] at k38
   simp
   refine ⟨_,_,.inl (by simpa using k38 _),by simp,?_⟩
   simp [v6]
 rw [if_neg q0] at v6
 rw [decide_eq_false q0] at k38
 clear h38
 obtain ⟨V,hV⟩:∃ V,V = vicF cand ts (-1) 0 ts:=⟨_,rfl⟩
 rw [← hV] at v6 hv
 simp
 refine ⟨_,_,.inl (by simpa using k38 _),by simp,?_⟩
 simp [hr]
 clear k38
 refine LoopK.intro (tr:=[100,100031]) mixed (by kernel_rfl) (fun s:Nat × Int=>[(0,.sl 13 (rm.map encL) .sh),(1,.sl 12 (ts.map encT) .sh),(2,.sl 1 (p.map encI) .sh),(7,.ptr 0 0),(10,.sl 1 (ids.map encI) .own),(11,.osl 1 0 i none 1),(12,.int .i64 s.2),(38,.sl 12 (ts.map encT) .sh),(39,.int .i64 i),(40,.int .i64 s.1)]) (fun _=>[cellsC c,bsV i ch])
   (fun s=>s.1 ≤ i ∧ -1 ≤ s.2 ∧ s.2 < i ∧ V = vicF cand ts s.2 s.1 (ts.drop s.1)) (fun s=>i - s.1) (0,-1) ?_ ?_ ?_
 · exact ⟨Nat.zero_le _,by simp,by simp; omega,hV⟩
 · simp [hle]
 clear hV
 rintro ⟨k,b⟩ ⟨i1,i2,i3,i4⟩
 simp only at i1 i2 i3 i4
 by_cases hk:k < i
 case neg =>
   rw [List.drop_eq_nil_of_le (by omega)] at i4
   simp only [vicF] at i4
   subst i4
   rcases hv with hv | ⟨j,t,hv,htj,hcj⟩
   · rw [if_pos (by rw [hv]; decide)] at v6
     subst hv
     simp [hk,v6]
   · subst hv
     rw [if_neg (by omega),Int.toNat_natCast] at v6
     have htd:ts.getD j tun0 = t:=by rw [List.getD_eq_getElem?_getD,htj]; rfl
     rw [htd] at v6
     obtain ⟨hb0,hjc⟩:=hcand j t hcj
     have htm:=List.mem_of_getElem? htj
     obtain ⟨hp30,hb1,hhi⟩:=hts t htm
     have hj:j < i:=by omega
     have hnd:(ch ++ [(j:Int)]).Nodup:=by
       rw [List.nodup_append]
       refine ⟨v3,by simp,fun a ha b hb e=>?_⟩
       simp at hb
       subst hb
       subst e
       exact hjc ha
     have hrb:∀ x ∈ ch ++ [(j:Int)],0 ≤ x ∧ x < i:=by
       intro x hx
       rcases List.mem_append.1 hx with hx | hx
       · exact v4 x hx
       · simp at hx; subst hx; omega
     have hcl:=nodup_len_int hnd hrb
     simp only [List.length_append,List.length_cons,List.length_nil] at hcl
     have k48:=fun H=>(t48 rm n v1 hn2 t t.P.length rfl hp30 ⟨by omega,hb1⟩ hhi (fun x hx k hk=>by have:=v5 x hx k hk; omega)).up' H (by simp [noid,noid0]) rfl
     rw [v7] at k48
     have hset:=bsV_set (R:=i) (j:=j) ch
     have hlen:=bsV_len i ch
     have j0:¬ (j:Int) < 0:=by omega
     have j1:j + 1 ≤ i:=by omega
     have s1:ch.length + 1 ≤ 140737488355328:=by omega
     have s2:(ch.length + 1) * 8 ≤ 140737488355328:=by omega
     have hw1:=cntI_le
     have huvl:(usesL l t.P).length ≤ 30:=by rw [usesL_len]; omega
     generalize usesL l t.P = uv at *
     simp [hk,j0,j1,hj,hr,htj,gE htj,hlen,hset,v2,s1,s2]
     refine ⟨_,_,.inl (by simpa using k48 _),by simp,?_⟩
     simp
     refine ⟨⟨chA t.W.Band t.W.Hold.toNat uv rm,ch ++ [(j:Int)],ids ++ [t.ID]⟩,⟨⟨by rw [chA_len]; exact v1,fun q=>by rw [usesL_chA,v7],by simp [v2],hnd,hrb⟩,fun x hx k hk=>?_,?_⟩,?_,?_⟩
     · obtain ⟨i',hi',he⟩:=List.getElem_of_mem hx
       have hg:(chA t.W.Band t.W.Hold.toNat uv rm)[i']? = some x:=by rw [List.getElem?_eq_getElem hi',he]
       rw [chA_get,Option.map_eq_some_iff] at hg
       obtain ⟨y,hy,rfl⟩:=hg
       have h5:=v5 y (List.mem_of_getElem? hy) k hk
       have h6:=mul_bd (a:=t.W.Band) ⟨by omega,hb1⟩ (c:=cntI i' uv) (by have:=hw1 i' uv; omega)
       simp only [List.length_append,List.length_cons,List.length_nil]
       simp only [chR]
       split
       · omega
       · omega
     · rw [v6]
       simp only [List.length_append,List.length_cons,List.length_nil]
       congr 1
       omega
     · simp only [List.length_append,List.length_cons,List.length_nil]
       omega
     · simp [hle]
 obtain ⟨t,ht,hd⟩:=get_drop (l:=ts) (i:=k) (by omega)
 rw [hd] at i4
 simp only [vicF] at i4
 have hmm:=List.mem_of_getElem? ht
 have w1:IntKind.i64.wrap ((k:Int) + 1) = k + 1:=wrap_in (by omega)
 have k47:=h47 t hmm
 have hcd:=hcdef k t
 have hbg:=bsV_get hk ch
 have hlen:=bsV_len i ch
 clear h47 hcdef hd hcand hv v6 v5
 generalize cand k t = cd at *
 generalize hasB ch (k:Int) = b1 at *
 generalize (usesL l t.P).any (inF fu) = b2 at *
 have skip:cd = false → V = vicF cand ts b (k + 1) (ts.drop (k + 1)):=by
   intro e
   rw [e] at i4
   simpa using i4
 cases b1 with
 | true =>
   have:=skip (by rw [hcd]; simp)
   simp [hk,hr,ht,gE ht,hbg,gE hbg,hlen,w1]
   exact ⟨k + 1,b,⟨by omega,i2,i3,this⟩,by omega,by simp [hle]⟩
 | false =>
 rw [Bool.or_false] at hcd
 rw [← hcd] at k47
 simp [hk,hr,ht,gE ht,hbg,gE hbg,hlen]
 refine ⟨_,_,.inl (by simpa [cargs] using k47 _),by simp [cargs],?_⟩
 clear k47 hcd
 cases cd with
 | false =>
   have:=skip rfl
   simp [w1]
   exact ⟨k + 1,b,⟨by omega,i2,i3,this⟩,by omega,by simp [hle]⟩
 | true =>
 rw [Bool.true_and] at i4
 by_cases g3:b < 0
 · rw [if_pos (by simp [g3])] at i4
   simp [g3,w1]
   exact ⟨k + 1,(k:Int),⟨by omega,by omega,by omega,i4⟩,by omega,by simp [hle]⟩
 obtain ⟨j,rfl⟩:∃ j:Nat,b = j:=⟨b.toNat,by omega⟩
 have hj:j < i:=by omega
 obtain ⟨u,hu⟩:∃ u,ts[j]? = some u:=⟨_,List.getElem?_eq_getElem (by omega)⟩
 have hud:ts.getD j tun0 = u:=by rw [List.getD_eq_getElem?_getD,hu]; rfl
 rw [Int.toNat_natCast,hud] at i4
 unfold betT at i4
 have g3':¬ (j:Int) < 0:=g3
 by_cases g4:u.W.Hold < t.W.Hold
 · rw [if_pos (by simp [g4])] at i4
   simp [g3',hj,hr,hu,gE hu,g4,w1]
   exact ⟨k + 1,(k:Int),⟨by omega,by omega,by omega,i4⟩,by omega,by simp [hle]⟩
 by_cases g5:t.W.Hold = u.W.Hold ∧ u.ID < t.ID
 · obtain ⟨g5,g6⟩:=g5
   rw [if_pos (by simp [g5,g6])] at i4
   simp [g3',hj,hr,hu,gE hu,g4,g5,g6,w1]
   exact ⟨k + 1,(k:Int),⟨by omega,by omega,by omega,i4⟩,by omega,by simp [hle]⟩
 rw [if_neg (by simp only [Bool.or_eq_true,Bool.and_eq_true,decide_eq_true_eq]; omega)] at i4
 by_cases g6:t.W.Hold = u.W.Hold
 · have g7:¬ u.ID < t.ID:=fun h=>g5 ⟨g6,h⟩
   simp [g3',hj,hr,hu,gE hu,g4,g6,g7,w1]
   exact ⟨k + 1,(j:Int),⟨by omega,by omega,by omega,i4⟩,by omega,by simp [hle]⟩
 · simp [g3',hj,hr,hu,gE hu,g4,g6,w1]
   exact ⟨k + 1,(j:Int),⟨by omega,by omega,by omega,i4⟩,by omega,by simp [hle]⟩
end Go.Proofs.YtpmmnnaaoideeaaGreat

/- The law of the tunnels that give way, by the program. -/
namespace Go.Proofs.YtpmmnnaaoideeaaGreat
open Go Go.Am Go.Wk
theorem vicL_len (l:List Lnk) (ts:List Tun) (us:List Int) (c:Con):∀ (f:Nat) (r:List Lnk) (ch ids:List Int),(vicL l ts us c f r ch ids).1.length ≤ ids.length + f:=by
 intro f
 induction f with
 | zero=>intro r ch ids; simp [vicL]
 | succ f ih =>
   intro r ch ids
   simp only [vicL]
   split
   · simp
   split
   · simp
   · refine Nat.le_trans (ih _ _ _) ?_
     simp
     omega
theorem vicN_len (l:List Lnk) (ts:List Tun) (p:List Int) (c:Con):(vicN l ts p c).1.length ≤ ts.length + 1:=by
 unfold vicN
 split
 · simp
 split
 · simp
 · have:=vicL_len l ts (usesL l p) c (ts.length + 1) l [] []
   simpa using this
end Go.Proofs.YtpmmnnaaoideeaaGreat

/- What gives way: less important, in order, and all needed. No program. -/
namespace Go.Proofs.YtpmmnnaaoideeaaGreat
open Go Go.Am Go.Wk
def totX (l:List Lnk) (ch:List Int):Nat → List Tun → Nat → Nat → Int
 | _,[],_,_=>0
 | j,t :: ts,i,k=>(if (j:Int) ∈ ch then 0 else oneT l t i k) + totX l ch (j + 1) ts i k
theorem totX_nil (l:List Lnk):∀ (ts:List Tun) (j i k:Nat),totX l [] j ts i k = totT l ts i k
 | [],_,_,_=>rfl
 | t :: ts,j,i,k=>by simp only [totX,totT,totX_nil l ts]; simp
structure GI (l:List Lnk) (ts:List Tun) (us:List Int) (c:Con) (out:List Int) (r:List Lnk) (ch ids:List Int) (H:Int):Prop where
  len:r.length = l.length
  us_:∀ q,usesL r q = usesL l q
  nd:ch.Nodup
  rg:∀ x ∈ ch,0 ≤ x ∧ x < ts.length
  id:ids = ch.map fun x=>(ts.getD x.toNat tun0).ID
  fr:∀ (i:Nat) (x:Lnk),r[i]? = some x → (0 ≤ x.Cap ∧ x.Cap ≤ 1099511627776) ∧ ∀ k,k < 8 → x.Fr k = x.Cap - totX l ch 0 ts i k
  h:∀ (j:Nat) (t:Tun),ts[j]? = some t → candP l (us.filter fun x=>!fullP r c.Band x) c ch j t = true → t.W.Hold ≤ H
  run:∃ f,ts.length + 1 ≤ f + ch.length ∧ vicL l ts us c f r ch ids = (out,0)
theorem GI.start {l:List Lnk} {ts:List Tun} {us:List Int} {c:Con} {out:List Int} (hts:∀ t ∈ ts,okA l t) (hC:∀ x ∈ l,0 ≤ x.Cap ∧ x.Cap ≤ 1099511627776) (ha:agreeP l ts) (hv:vicL l ts us c (ts.length + 1) l [] [] = (out,0)):GI l ts us c out l [] [] 8:=by
 refine ⟨rfl,fun _=>rfl,List.nodup_nil,by simp,rfl,fun i x hx=>⟨hC x (List.mem_of_getElem? hx),fun k hk=>?_⟩,fun j t ht _=>?_,⟨ts.length + 1,by simp,hv⟩⟩
 · rw [totX_nil]; exact ha i x hx k hk
 · have:=(hts t (List.mem_of_getElem? ht)).h7; omega
theorem vicL_pre (l:List Lnk) (ts:List Tun) (us:List Int) (c:Con):∀ (f:Nat) (r:List Lnk) (ch ids out:List Int),vicL l ts us c f r ch ids = (out,0) → ∃ z,out = ids ++ z:=by
 intro f
 induction f with
 | zero=>intro r ch ids out h; simp [vicL] at h
 | succ f ih =>
   intro r ch ids out h
   simp only [vicL] at h
   split at h
   · simp at h; exact ⟨[],by simp [h]⟩
   split at h
   · simp at h
   · obtain ⟨z,hz⟩:=ih _ _ _ _ h
     exact ⟨_,by rw [hz,List.append_assoc]⟩
theorem GI.done {l:List Lnk} {ts:List Tun} {us:List Int} {c:Con} {out:List Int} {r:List Lnk} {ch:List Int} {H:Int} (g:GI l ts us c out r ch out H):roomB r c.Band us = true:=by
 obtain ⟨f,h1,h2⟩:=g.run
 rw [room_fu]
 cases f with
 | zero=>simp [vicL] at h2
 | succ f =>
   simp only [vicL] at h2
   by_cases q:(us.filter fun x=>!fullP r c.Band x) = []
   · exact decide_eq_true q
   · rw [if_neg q] at h2
     split at h2
     · simp at h2
     · obtain ⟨z,hz⟩:=vicL_pre _ _ _ _ _ _ _ _ _ h2
       have:=congrArg List.length hz
       simp at this
end Go.Proofs.YtpmmnnaaoideeaaGreat

/- After Setup and Teardown links and tunnels agree. No program. -/
namespace Go.Proofs.YtpmmnnaaoideeaaGreat
open Go Go.Am Go.Wk
theorem tuns_iff {n:Int} {l:List Lnk}:∀ {ts:List Tun} {p:Option Int},tunsE n l p ts = 0 ↔ (∀ t ∈ ts,1 ≤ t.ID ∧ tunE n l t = 0) ∧ (ts.Pairwise fun a b=>a.ID < b.ID) ∧ ∀ q,p = some q → ∀ t ∈ ts,q < t.ID:=by
 intro ts
 induction ts with
 | nil=>intro p; simp [tunsE]
 | cons x ts ih =>
   intro p
   simp only [tunsE]
   by_cases g1:x.ID < 1
   · rw [if_pos g1]
     refine ⟨fun h=>(by cases h),fun h=>?_⟩
     have:=(h.1 x (by simp)).1
     omega
   rw [if_neg g1]
   by_cases g2:prevB p x.ID = true
   · rw [if_pos g2]
     refine ⟨fun h=>(by cases h),fun h=>?_⟩
     cases p with
     | none=>simp [prevB] at g2
     | some q =>
       have:=h.2.2 q rfl x (by simp)
       simp only [prevB,decide_eq_true_eq] at g2
       omega
   rw [if_neg g2]
   by_cases g3:tunE n l x = 0
   · rw [if_neg (by simpa using g3),ih]
     constructor
     · rintro ⟨h1,h2,h3⟩
       have hx:=h3 x.ID rfl
       refine ⟨fun t ht=>?_,List.pairwise_cons.2 ⟨hx,h2⟩,fun q hq t ht=>?_⟩
       · rcases List.mem_cons.1 ht with rfl | ht
         · exact ⟨by omega,g3⟩
         · exact h1 t ht
       · subst hq
         simp only [prevB,decide_eq_true_eq] at g2
         rcases List.mem_cons.1 ht with rfl | ht
         · omega
         · have:=hx t ht; omega
     · rintro ⟨h1,h2,h3⟩
       obtain ⟨k1,k2⟩:=List.pairwise_cons.1 h2
       exact ⟨fun t ht=>h1 t (List.mem_cons_of_mem _ ht),k2,fun q hq t ht=>by injection hq with hq; subst hq; exact k1 t ht⟩
   · rw [if_pos g3]
     exact ⟨fun h=>absurd h g3,fun h=>(h.1 x (by simp)).2⟩
theorem links_iff {n:Int}:∀ {l:List Lnk} {p:Option Lnk},(∀ x ∈ l,linkE n x = 0) → (l.Pairwise fun x y=>x.From < y.From ∨ x.From = y.From ∧ x.To < y.To) → (∀ q,p = some q → ∀ y ∈ l,q.From < y.From ∨ q.From = y.From ∧ q.To < y.To) → linksE n p l = 0:=by
 intro l
 induction l with
 | nil=>intro p _ _ _; rfl
 | cons x l ih =>
   intro p h1 h2 h3
   obtain ⟨k1,k2⟩:=List.pairwise_cons.1 h2
   simp only [linksE]
   rw [if_neg (by simpa using h1 x (by simp)),if_neg,ih (fun y hy=>h1 y (List.mem_cons_of_mem _ hy)) k2 (fun q hq y hy=>by injection hq with hq; subst hq; exact k1 y hy)]
   cases p with
   | none=>simp [befL]
   | some q =>
     have:=h3 q rfl x (by simp)
     simp [befL]
     omega
theorem linkE_of {n:Int} {x y:Lnk} (h:linkE n x = 0) (e1:y.From = x.From) (e2:y.To = x.To) (e3:y.Cost = x.Cost) (e4:y.Cap = x.Cap) (hb:∀ k,k < 8 → 0 ≤ y.Fr k ∧ y.Fr k ≤ y.Cap) (hd:∀ k,k + 1 < 8 → y.Fr (k + 1) ≤ y.Fr k):linkE n y = 0:=by
 unfold linkE at h ⊢
 rw [e1,e2,e3,e4]
 by_cases g1:x.From < 0 ∨ n ≤ x.From ∨ x.To < 0 ∨ n ≤ x.To
 · rw [if_pos g1] at h; cases h
 rw [if_neg g1] at h ⊢
 by_cases g2:x.From = x.To
 · rw [if_pos g2] at h; cases h
 rw [if_neg g2] at h ⊢
 by_cases g3:x.Cost < 1 ∨ 65535 < x.Cost ∨ x.Cap < 0 ∨ 1099511627776 < x.Cap
 · rw [if_pos g3] at h; cases h
 rw [if_neg g3]
 rw [e4] at hb
 rw [if_neg,if_neg]
 · have q:=fun k hk=>hd k hk
   have q0:=q 0 (by omega); have q1:=q 1 (by omega); have q2:=q 2 (by omega); have q3:=q 3 (by omega); have q4:=q 4 (by omega); have q5:=q 5 (by omega); have q6:=q 6 (by omega)
   simp only [frs,upF]
   simp only [Nat.zero_add,Nat.reduceAdd] at q0 q1 q2 q3 q4 q5 q6
   rw [if_neg (by omega),if_neg (by omega),if_neg (by omega),if_neg (by omega),if_neg (by omega),if_neg (by omega),if_neg (by omega)]
   decide
 · have q0:=hb 0 (by omega); have q1:=hb 1 (by omega); have q2:=hb 2 (by omega); have q3:=hb 3 (by omega); have q4:=hb 4 (by omega); have q5:=hb 5 (by omega); have q6:=hb 6 (by omega); have q7:=hb 7 (by omega)
   simp [frs,outF]
   omega
theorem linkE_fr {n:Int} {x:Lnk} (h:linkE n x = 0):∀ k,k < 8 → 0 ≤ x.Fr k ∧ x.Fr k ≤ x.Cap:=by
 unfold linkE at h
 by_cases g1:x.From < 0 ∨ n ≤ x.From ∨ x.To < 0 ∨ n ≤ x.To
 · rw [if_pos g1] at h; cases h
 rw [if_neg g1] at h
 by_cases g2:x.From = x.To
 · rw [if_pos g2] at h; cases h
 rw [if_neg g2] at h
 by_cases g3:x.Cost < 1 ∨ 65535 < x.Cost ∨ x.Cap < 0 ∨ 1099511627776 < x.Cap
 · rw [if_pos g3] at h; cases h
 rw [if_neg g3] at h
 by_cases g4:(frs x).any (outF x.Cap) = true
 · rw [if_pos g4] at h; cases h
 simp only [frs,List.any_cons,List.any_nil,Bool.or_eq_true,outF,decide_eq_true_eq] at g4
 intro k hk
 match k,hk with
 | 0,_ | 1,_ | 2,_ | 3,_ | 4,_ | 5,_ | 6,_ | 7,_=>refine ⟨?_,?_⟩ <;> (apply Decidable.byContradiction; intro hc; apply g4; simp; omega)
theorem tunE_us {n:Int} {l m:List Lnk} (h:∀ p,usesL m p = usesL l p) (t:Tun):tunE n m t = tunE n l t:=by
 unfold tunE pathB
 rw [h]
theorem tunsE_us {n:Int} {l m:List Lnk} (h:∀ p,usesL m p = usesL l p):∀ (ts:List Tun) (p:Option Int),tunsE n m p ts = tunsE n l p ts
 | [],_=>rfl
 | t :: ts,p=>by simp only [tunsE,tunE_us h,tunsE_us h ts]
theorem totT_us {l m:List Lnk} (h:∀ p,usesL m p = usesL l p) (i k:Nat):∀ (ts:List Tun),totT m ts i k = totT l ts i k
 | []=>rfl
 | t :: ts=>by simp only [totT,oneT,h,totT_us h i k ts]
theorem totT_app (l:List Lnk) (i k:Nat):∀ (a b:List Tun),totT l (a ++ b) i k = totT l a i k + totT l b i k
 | [],b=>by simp [totT]
 | t :: a,b=>by simp only [List.cons_append,totT,totT_app l i k a b]; omega
theorem oneT_mono {l:List Lnk} {t:Tun} (ok:okA l t) (i:Nat) {k j:Nat} (h:k ≤ j):oneT l t i k ≤ oneT l t i j:=by
 unfold oneT
 refine Int.mul_le_mul_of_nonneg_right ?_ (Int.natCast_nonneg _)
 have:=ok.b0
 unfold takenF
 split
 · rw [if_pos (by omega)]; exact Int.le_refl _
 · split <;> omega
theorem totT_mono {l:List Lnk} (i:Nat) {k j:Nat} (h:k ≤ j):∀ {ts:List Tun},(∀ t ∈ ts,okA l t) → totT l ts i k ≤ totT l ts i j
 | [],_=>Int.le_refl _
 | t :: ts,ht=>by
   have h1:=oneT_mono (ht t (by simp)) i h
   have h2:=totT_mono i h (fun t h=>ht t (List.mem_cons_of_mem _ h)) (ts:=ts)
   simp only [totT]
   omega
structure Inv (n:Int) (l:List Lnk) (ts:List Tun):Prop where
  ck:checkE n l con0 = 0
  tu:tunsE n l none ts = 0
  ag:agreeP l ts
  pl:∀ t ∈ ts,t.P.length ≤ 30
theorem chk_parts {n:Int} {l:List Lnk} {ts:List Tun} (h:chkT n l ts = 0):checkE n l con0 = 0 ∧ tunsE n l none ts = 0 ∧ agreeP l ts:=by
 unfold chkT at h
 by_cases g1:checkE n l con0 = 0
 case neg=>rw [if_pos g1] at h; exact absurd h g1
 rw [if_neg (by simpa using g1)] at h
 by_cases g2:2000 < ts.length
 · rw [if_pos g2] at h; cases h
 rw [if_neg g2] at h
 by_cases g3:tunsE n l none ts = 0
 case neg=>rw [if_pos g3] at h; exact absurd h g3
 rw [if_neg (by simpa using g3)] at h
 refine ⟨g1,g3,?_⟩
 apply Classical.byContradiction
 intro hc
 rw [agreeB_no hc] at h
 simp at h
theorem Inv.of {n:Int} {l:List Lnk} {ts:List Tun} (h:chkT n l ts = 0) (pl:∀ t ∈ ts,t.P.length ≤ 30):Inv n l ts :=
 ⟨(chk_parts h).1,(chk_parts h).2.1,(chk_parts h).2.2,pl⟩
theorem Inv.okA {n:Int} {l:List Lnk} {ts:List Tun} (h:Inv n l ts):∀ t ∈ ts,okA l t:=fun t ht=>tunE_ok (tunsE_all h.tu t ht) (h.pl t ht)
theorem Inv.step {n:Int} {l:List Lnk} {ts:List Tun} {v:Int} {h:Nat} {us:List Int} (ck:checkE n l con0 = 0) (tu:tunsE n l none ts = 0) (pl:∀ t ∈ ts,t.P.length ≤ 30)
   (ag:agreeP (chA v h us l) ts) (nn:∀ x ∈ chA v h us l,∀ k,k < 8 → 0 ≤ x.Fr k):Inv n (chA v h us l) ts:=by
 have hu:=usesL_chA v h us l
 have tu':tunsE n (chA v h us l) none ts = 0:=by rw [tunsE_us hu]; exact tu
 refine ⟨?_,tu',ag,pl⟩
 obtain ⟨n1,n2,l2,lk,cn⟩:=check_links ck
 obtain ⟨asc,_,lko⟩:=links_asc lk
 have hok:∀ t ∈ ts,Go.Proofs.YtpmmnnaaoideeaaGreat.okA (chA v h us l) t:=fun t ht=>tunE_ok (tunsE_all tu' t ht) (pl t ht)
 have key:(chA v h us l).map (fun x=>(x.From,x.To)) = l.map (fun x=>(x.From,x.To)):=by
   apply List.ext_getElem?
   intro i
   rw [List.getElem?_map,chA_get,List.getElem?_map]
   cases l[i]? <;> rfl
 have hl:linksE n none (chA v h us l) = 0:=by
   refine links_iff (fun x hx=>?_) ?_ (fun q hq=>by cases hq)
   · obtain ⟨i,hi,hie⟩:=List.getElem_of_mem hx
     have hgt:(chA v h us l)[i]? = some x:=by rw [List.getElem?_eq_getElem hi,hie]
     have hgt2:=hgt
     rw [chA_get,Option.map_eq_some_iff] at hgt
     obtain ⟨y,hy,hyx⟩:=hgt
     have hagx:=ag i x hgt2
     refine linkE_of (lko y (List.mem_of_getElem? hy)) ?_ ?_ ?_ ?_ (fun k hk=>⟨nn x hx k hk,?_⟩) (fun k hk=>?_)
     · rw [← hyx]; rfl
     · rw [← hyx]; rfl
     · rw [← hyx]; rfl
     · rw [← hyx]; rfl
     · have:=(totT_bd hok i k).1
       rw [hagx k hk]; omega
     · have:=totT_mono i (show k ≤ k + 1 by omega) hok
       rw [hagx k (by omega),hagx (k + 1) hk]; omega
   · have h1:(l.map (fun x=>(x.From,x.To))).Pairwise (fun a b=>a.1 < b.1 ∨ a.1 = b.1 ∧ a.2 < b.2):=List.pairwise_map.2 asc
     rw [← key] at h1
     exact List.pairwise_map.1 h1
 unfold checkE
 rw [if_neg (by omega),if_neg (by rw [chA_len]; omega),if_neg (by simpa using hl)]
 exact cn
theorem oneT_nil (l:List Lnk) {t:Tun} (h:t.P = []) (i k:Nat):oneT l t i k = 0:=by
 unfold oneT
 rw [h]
 simp [usesL,cntI]
theorem tunE_noP {n:Int} {l:List Lnk} {t:Tun} (h:tunE n l t = 0):tunE n l (noP t) = 0:=by
 unfold tunE at h ⊢
 by_cases g1:conE n t.W = 0
 case neg=>rw [if_pos g1] at h; exact absurd h g1
 rw [if_neg (by simpa using g1)] at h
 by_cases g2:endsE n t = 0
 case neg=>rw [if_pos g2] at h; exact absurd h g2
 rw [show conE n (noP t).W = conE n t.W from rfl,show endsE n (noP t) = endsE n t from rfl,if_neg (by simpa using g1),if_neg (by simpa using g2),if_neg (by simp [pathB,noP])]
theorem Inv.rel {n:Int} {l:List Lnk} {a b:List Tun} {t:Tun} (h:Inv n l (a ++ t :: b)) (h0:(relN l t).2 = 0):Inv n (relN l t).1 (a ++ noP t :: b):=by
 obtain ⟨g1,hus,he,hg⟩:=relN_some h0
 obtain ⟨⟨a1,a2⟩,⟨a3,a4⟩,_⟩:=pathE_ok g1
 obtain ⟨k1,k2,_⟩:=tuns_iff.1 h.tu
 obtain ⟨n1,n2,l2,lk,cn⟩:=check_links h.ck
 obtain ⟨asc,_,lko⟩:=links_asc lk
 rw [he]
 have hfr:∀ (i:Nat) (x:Lnk),l[i]? = some x → ∀ k,k < 8 → (chR t.W.Hold.toNat (t.W.Band * (cntI i (usesL l t.P):Int)) x).Fr k = x.Fr k + oneT l t i k:=by
   intro i x hx k hk
   simp only [chR]
   unfold oneT takenF
   by_cases e:t.W.Hold ≤ (k:Int)
   · rw [if_pos ⟨by omega,hk⟩,if_pos e]
   · rw [if_neg (by omega),if_neg e]; simp
 refine Inv.step h.ck (tuns_iff.2 ⟨fun x hx=>?_,?_,fun q hq=>by cases hq⟩) (fun x hx=>?_) (fun i x hx k hk=>?_) (fun x hx k hk=>?_)
 · rcases List.mem_append.1 hx with hx | hx
   · exact k1 x (List.mem_append.2 (.inl hx))
   · rcases List.mem_cons.1 hx with rfl | hx
     · have:=k1 t (by simp)
       exact ⟨this.1,tunE_noP this.2⟩
     · exact k1 x (by simp [hx])
 · have h1:((a ++ t :: b).map Tun.ID).Pairwise (· < ·):=List.pairwise_map.2 k2
   have h2:(a ++ noP t :: b).map Tun.ID = (a ++ t :: b).map Tun.ID:=by simp [noP]
   rw [← h2] at h1
   exact List.pairwise_map.1 h1
 · rcases List.mem_append.1 hx with hx | hx
   · exact h.pl x (List.mem_append.2 (.inl hx))
   · rcases List.mem_cons.1 hx with rfl | hx
     · simp [noP]
     · exact h.pl x (by simp [hx])
 · rw [chA_get,Option.map_eq_some_iff] at hx
   obtain ⟨y,hy,rfl⟩:=hx
   rw [hfr i y hy k hk,h.ag i y hy k hk,totT_us (usesL_chA _ _ _ _),totT_app,totT_app]
   simp only [totT]
   rw [oneT_nil l (t:=noP t) rfl]
   show y.Cap - _ + _ = y.Cap - _
   omega
 · obtain ⟨i,hi,hie⟩:=List.getElem_of_mem hx
   have hgt:(chA t.W.Band t.W.Hold.toNat (usesL l t.P) l)[i]? = some x:=by rw [List.getElem?_eq_getElem hi,hie]
   rw [chA_get,Option.map_eq_some_iff] at hgt
   obtain ⟨y,hy,rfl⟩:=hgt
   rw [hfr i y hy k hk]
   have h1:=(linkE_fr (lko y (List.mem_of_getElem? hy)) k hk).1
   have h2:=(oneT_bd (h.okA t (by simp)) i k).1
   omega
theorem Inv.drop {n:Int} {l:List Lnk} {a b:List Tun} {t:Tun} (h:Inv n l (a ++ t :: b)) (hp:t.P = []):Inv n l (a ++ b):=by
 obtain ⟨k1,k2,_⟩:=tuns_iff.1 h.tu
 have hs:(a ++ b).Sublist (a ++ t :: b):=List.Sublist.append_left (List.sublist_cons_self t b) a
 refine ⟨h.ck,tuns_iff.2 ⟨fun x hx=>k1 x (hs.subset hx),k2.sublist hs,fun q hq=>by cases hq⟩,fun i x hx k hk=>?_,fun x hx=>h.pl x (hs.subset hx)⟩
 rw [h.ag i x hx k hk,totT_app,totT_app]
 simp only [totT]
 rw [oneT_nil l hp]
 omega
theorem Inv.suV {n:Int} (vs:List Int):∀ (ts acc:List Tun) (l:List Lnk),Inv n l (acc ++ ts) → (suV vs acc ts l).2.2 = 0 → Inv n (suV vs acc ts l).1 (suV vs acc ts l).2.1 ∧ ∀ p,usesL (suV vs acc ts l).1 p = usesL l p
 | [],acc,l,h,_=>by rw [List.append_nil] at h; exact ⟨h,fun _=>rfl⟩
 | x :: ts,acc,l,h,h0=>by
   simp only [Go.Proofs.YtpmmnnaaoideeaaGreat.suV] at h0 ⊢
   by_cases g1:hasB vs x.ID = true
   · rw [if_pos g1] at h0 ⊢
     by_cases g2:(relN l x).2 = 0
     · rw [if_neg (by simpa using g2)] at h0 ⊢
       have h1:=h.rel g2
       have hu:∀ p,usesL (relN l x).1 p = usesL l p:=by rw [(relN_some g2).2.2.1]; exact usesL_chA _ _ _ _
       have:=Inv.suV vs ts (acc ++ [noP x]) (relN l x).1 (by simpa using h1) h0
       exact ⟨this.1,fun p=>by rw [this.2 p,hu p]⟩
     · rw [if_pos g2] at h0; exact absurd h0 g2
   · rw [if_neg g1] at h0 ⊢
     exact Inv.suV vs ts (acc ++ [x]) l (by simpa using h) h0
end Go.Proofs.YtpmmnnaaoideeaaGreat

/- After Setup links and tunnels agree. No program. -/
namespace Go.Proofs.YtpmmnnaaoideeaaGreat
open Go Go.Am Go.Wk
theorem resN_some {l:List Lnk} {t:Tun} (h0:(resN l t).2 = 0):pathE l t = 0 ∧ (∀ u ∈ usesL l t.P,0 ≤ u ∧ u < l.length) ∧ (resN l t).1 = chA (-t.W.Band) t.W.Hold.toNat (usesL l t.P) l ∧
   ∀ (i:Nat) (x:Lnk) (c:Nat),l[i]? = some x → c < cntI i (usesL l t.P) → ∀ k,t.W.Hold.toNat ≤ k → k < 8 → t.W.Band ≤ x.Fr k + -t.W.Band * c:=by
 unfold resN at h0 ⊢
 by_cases g1:pathE l t = 0
 case neg=>rw [if_pos g1] at h0; exact absurd h0 g1
 rw [if_neg (by simpa using g1)] at h0 ⊢
 by_cases g2:roomB l t.W.Band (usesL l t.P) = false
 · rw [if_pos g2] at h0; simp at h0
 rw [if_neg g2] at h0 ⊢
 obtain ⟨⟨a1,a2⟩,⟨a3,a4⟩,hus⟩:=pathE_ok g1
 cases hA:takeA t.W.Band t.W.Hold.toNat (usesL l t.P) l with
 | none=>rw [hA] at h0; simp at h0
 | some o =>
   simp only
   rw [takeA_op] at hA
   refine ⟨g1,hus,opA_some (by omega) _ _ hus o hA,fun i x c hx hc k k1 k2=>?_⟩
   have:=opA_good (by omega) _ _ hus o hA i x c hx hc k k1 k2
   simp only [decide_eq_false_iff_not] at this
   omega
theorem Inv.res {n:Int} {l:List Lnk} {a b:List Tun} {w:Tun} (h:Inv n l (a ++ b)) (hw:tunE n l w = 0) (hid:1 ≤ w.ID) (ha:∀ t ∈ a,t.ID < w.ID) (hb:∀ t ∈ b,w.ID < t.ID) (pl:w.P.length ≤ 30) (h0:(resN l w).2 = 0):Inv n (resN l w).1 (a ++ w :: b):=by
 obtain ⟨g1,hus,he,hg⟩:=resN_some h0
 obtain ⟨⟨a1,a2⟩,⟨a3,a4⟩,_⟩:=pathE_ok g1
 obtain ⟨k1,k2,_⟩:=tuns_iff.1 h.tu
 obtain ⟨n1,n2,l2,lk,cn⟩:=check_links h.ck
 obtain ⟨asc,_,lko⟩:=links_asc lk
 rw [he]
 have hfr:∀ (i:Nat) (x:Lnk),l[i]? = some x → ∀ k,k < 8 → (chR w.W.Hold.toNat (-w.W.Band * (cntI i (usesL l w.P):Int)) x).Fr k = x.Fr k - oneT l w i k:=by
   intro i x hx k hk
   simp only [chR]
   unfold oneT takenF
   by_cases e:w.W.Hold ≤ (k:Int)
   · rw [if_pos ⟨by omega,hk⟩,if_pos e,Int.neg_mul]; omega
   · rw [if_neg (by omega),if_neg e]; simp
 refine Inv.step h.ck (tuns_iff.2 ⟨fun x hx=>?_,?_,fun q hq=>by cases hq⟩) (fun x hx=>?_) (fun i x hx k hk=>?_) (fun x hx k hk=>?_)
 · rcases List.mem_append.1 hx with hx | hx
   · exact k1 x (List.mem_append.2 (.inl hx))
   · rcases List.mem_cons.1 hx with rfl | hx
     · exact ⟨hid,hw⟩
     · exact k1 x (by simp [hx])
 · obtain ⟨p1,p2,p3⟩:=List.pairwise_append.1 k2
   refine List.pairwise_append.2 ⟨p1,List.pairwise_cons.2 ⟨hb,p2⟩,fun x hx y hy=>?_⟩
   rcases List.mem_cons.1 hy with rfl | hy
   · exact ha x hx
   · exact p3 x hx y hy
 · rcases List.mem_append.1 hx with hx | hx
   · exact h.pl x (List.mem_append.2 (.inl hx))
   · rcases List.mem_cons.1 hx with rfl | hx
     · exact pl
     · exact h.pl x (by simp [hx])
 · rw [chA_get,Option.map_eq_some_iff] at hx
   obtain ⟨y,hy,rfl⟩:=hx
   rw [hfr i y hy k hk,h.ag i y hy k hk,totT_us (usesL_chA _ _ _ _),totT_app,totT_app]
   simp only [totT]
   show y.Cap - _ - _ = y.Cap - _
   omega
 · obtain ⟨i,hi,hie⟩:=List.getElem_of_mem hx
   have hgt:(chA (-w.W.Band) w.W.Hold.toNat (usesL l w.P) l)[i]? = some x:=by rw [List.getElem?_eq_getElem hi,hie]
   rw [chA_get,Option.map_eq_some_iff] at hgt
   obtain ⟨y,hy,rfl⟩:=hgt
   have h1:=(linkE_fr (lko y (List.mem_of_getElem? hy)) k hk).1
   simp only [chR]
   split
   · rename_i hk2
     rcases Nat.eq_zero_or_pos (cntI i (usesL l w.P)) with e | e
     · rw [e]; simpa using h1
     · obtain ⟨c,hcc⟩:∃ c,cntI i (usesL l w.P) = c + 1:=⟨cntI i (usesL l w.P) - 1,by omega⟩
       have:=hg i y c hy (by omega) k hk2.1 hk2.2
       rw [hcc,Int.natCast_add,Int.mul_add]
       simp only [Int.natCast_one,Int.mul_one]
       omega
   · exact h1
theorem posT_split {q:Int} {ts:List Tun} (hasc:ts.Pairwise fun a b=>a.ID < b.ID) (hne:ts.any (isID q) = false):(∀ t ∈ ts.take (posT q ts),t.ID < q) ∧ ∀ t ∈ ts.drop (posT q ts),q < t.ID:=by
 induction ts with
 | nil=>simp
 | cons x ts ih =>
   obtain ⟨k1,k2⟩:=List.pairwise_cons.1 hasc
   simp only [List.any_cons,Bool.or_eq_false_iff,isID,decide_eq_false_iff_not] at hne
   by_cases hx:x.ID < q
   · have e:posT q (x :: ts) = posT q ts + 1:=by
       unfold posT
       rw [List.takeWhile_cons_of_pos (by simpa using hx),List.length_cons]
     obtain ⟨i1,i2⟩:=ih k2 hne.2
     rw [e,List.take_succ_cons,List.drop_succ_cons]
     refine ⟨fun t ht=>?_,i2⟩
     rcases List.mem_cons.1 ht with rfl | ht
     · exact hx
     · exact i1 t ht
   · have e:posT q (x :: ts) = 0:=by
       unfold posT
       rw [List.takeWhile_cons_of_neg (by simpa using hx)]
       rfl
     rw [e]
     refine ⟨by simp,fun t ht=>?_⟩
     rw [List.drop_zero] at ht
     rcases List.mem_cons.1 ht with rfl | ht
     · omega
     · have:=k1 t ht; omega
theorem any_ids {ts os:List Tun} (h:os.map Tun.ID = ts.map Tun.ID) (q:Int):os.any (isID q) = ts.any (isID q):=by
 have h1:∀ l:List Tun,l.any (isID q) = (l.map Tun.ID).any (fun i=>decide (i = q)):=by
   intro l; rw [List.any_map]; rfl
 rw [h1,h1,h]
theorem suV_lnk (vs:List Int):∀ (ts acc:List Tun) (l:List Lnk),(suV vs acc ts l).2.2 = 0 → (suV vs acc ts l).1.length = l.length
 | [],acc,l,_=>rfl
 | x :: ts,acc,l,h=>by
   simp only [suV] at h ⊢
   split at h
   · rename_i g1
     rw [if_pos g1]
     split at h
     · rename_i g2; exact absurd h g2
     · rename_i g2
       rw [if_neg g2,suV_lnk vs ts _ _ h,(relN_some (Decidable.not_not.1 g2)).2.2.1,chA_len]
   · rename_i g1
     rw [if_neg g1]
     exact suV_lnk vs ts _ _ h
theorem want_parts {n:Int} {ts:List Tun} {w:Tun} (h:wantE n ts w = 0):1 ≤ w.ID ∧ ts.any (isID w.ID) = false ∧ conE n w.W = 0 ∧ endsE n w = 0:=by
 unfold wantE at h
 by_cases g1:w.ID < 1
 · rw [if_pos g1] at h; cases h
 rw [if_neg g1] at h
 by_cases g2:ts.any (isID w.ID) = true
 · rw [if_pos g2] at h; cases h
 rw [if_neg g2] at h
 by_cases g3:conE n w.W = 0
 case neg=>rw [if_pos g3] at h; exact absurd h g3
 rw [if_neg (by simpa using g3)] at h
 exact ⟨by omega,by simpa using g2,g3,h⟩
theorem ends_out {n:Int} {w:Tun} (h:endsE n w = 0):outN n w.From = false ∧ outN n w.To = false:=by
 unfold endsE at h
 by_cases g1:w.From < 0 ∨ n ≤ w.From ∨ w.To < 0 ∨ n ≤ w.To
 · rw [if_pos g1] at h; cases h
 simp [outN]
 omega
theorem suN_law {N:Nat} {l:List Lnk} {ts:List Tun} {w:Tun} (hi:Inv N l ts) (hN:N ≤ 30) (h0:(suN N l ts w).2.2.2 = 0) :
   Inv N (suN N l ts w).1 (suN N l ts w).2.1 ∧ (suN N l ts w).1.length = l.length ∧ (suN N l ts w).2.1.length = ts.length + 1 ∧ ∀ t ∈ (suN N l ts w).2.1,t.ID = w.ID ∨ ∃ u ∈ ts,t.ID = u.ID:=by
 unfold suN at h0 ⊢
 by_cases g1:chkT N l ts = 0
 case neg=>rw [if_pos g1] at h0; exact absurd h0 g1
 rw [if_neg (by simpa using g1)] at h0 ⊢
 by_cases g2:wantE N ts w = 0
 case neg=>rw [if_pos g2] at h0; exact absurd h0 g2
 rw [if_neg (by simpa using g2)] at h0 ⊢
 by_cases g3:(routeN N l w.From w.To w.W).2.2 = 0
 case neg=>rw [if_pos g3] at h0; exact absurd h0 g3
 rw [if_neg (by simpa using g3)] at h0 ⊢
 generalize hp:(routeN N l w.From w.To w.W).1 = p at *
 by_cases g4:(vicN l ts p w.W).2 = 0
 case neg=>rw [if_pos g4] at h0; exact absurd h0 g4
 rw [if_neg (by simpa using g4)] at h0 ⊢
 generalize (vicN l ts p w.W).1 = vs at *
 unfold su2 at h0 ⊢
 by_cases g5:(suV vs [] ts l).2.2 = 0
 case neg=>rw [if_pos g5] at h0; exact absurd h0 g5
 rw [if_neg (by simpa using g5)] at h0 ⊢
 obtain ⟨w1,w2,w3,w4⟩:=want_parts g2
 obtain ⟨o1,o2⟩:=ends_out w4
 have hck:=(checkE_con hi.ck w.W).1
 rw [w3] at hck
 obtain ⟨p1,p2,p3,p4,p5,p6⟩:=routeN_path hck o1 o2 g3
 rw [hp] at p1 p2 p3 p4 p5 p6
 obtain ⟨i1,i2⟩:=Inv.suV vs ts [] l (by simpa using hi) g5
 have hids:=suV_len vs ts [] l g5
 have hln:=suV_lnk vs ts [] l g5
 rw [List.map_nil,List.nil_append] at hids
 generalize suV vs [] ts l = T at *
 by_cases g6:(resN T.1 (wP w p)).2 = 0
 case neg=>rw [if_pos g6] at h0; exact absurd h0 g6
 rw [if_neg (by simpa using g6)]
 simp only
 have hw:tunE N T.1 (wP w p) = 0:=by
   rw [tunE_us i2]
   unfold tunE
   rw [show (wP w p).W = w.W from rfl,show endsE N (wP w p) = endsE N w from rfl,if_neg (by simpa using w3),if_neg (by simpa using w4),if_neg]
   have hpb:∀ t:Tun,t.P ≠ [] → t.P.getD 0 0 = t.From → t.P.getD (t.P.length - 1) 0 = t.To → repB t.P = false → hasB (usesL l t.P) (-1) = false → pathB l t = false:=by
     intro t q1 q2 q3 q4 q5
     unfold pathB
     rw [if_neg (by simpa using q1),q2,q3,q4,q5]
     simp
   rw [hpb (wP w p) p1 p2 p3 p4 p5]
   simp
 have hasc:=(tuns_iff.1 i1.tu).2.1
 obtain ⟨s1,s2⟩:=posT_split (q:=w.ID) hasc (by rw [any_ids hids]; exact w2)
 have hpl:=posT_le w.ID T.2.1
 have hres:=Inv.res (n:=N) (l:=T.1) (a:=T.2.1.take (posT w.ID T.2.1)) (b:=T.2.1.drop (posT w.ID T.2.1)) (w:=wP w p) (by rw [List.take_append_drop]; exact i1) hw w1 s1 s2 (by simp only [wP]; omega) g6
 have hlen:T.2.1.length = ts.length:=by
   have:=congrArg List.length hids
   simpa using this
 refine ⟨hres,?_,?_,fun t ht=>?_⟩
 · rw [(resN_some g6).2.2.1,chA_len,hln]
 · rw [insL_len hpl,hlen]
 · unfold insL at ht
   have:t = wP w p ∨ t ∈ T.2.1:=by
     rcases List.mem_append.1 ht with ht | ht
     · exact .inr (List.mem_of_mem_take ht)
     · rcases List.mem_cons.1 ht with ht | ht
       · exact .inl ht
       · exact .inr (List.mem_of_mem_drop ht)
   rcases this with rfl | ht
   · exact .inl rfl
   · right
     have:t.ID ∈ ts.map Tun.ID:=by rw [← hids]; exact List.mem_map_of_mem ht
     obtain ⟨u,hu,e⟩:=List.mem_map.1 this
     exact ⟨u,hu,e.symm⟩
end Go.Proofs.YtpmmnnaaoideeaaGreat
