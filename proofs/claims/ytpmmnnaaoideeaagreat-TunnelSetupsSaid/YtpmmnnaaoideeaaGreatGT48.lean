/- The tunnels that give way, by the program. -/
import Derived.Test.YtpmmnnaaoideeaaGreatGT12
import Derived.Test.YtpmmnnaaoideeaaGreatGTL
import Derived.Test.YtpmmnnaaoideeaaGreatGT1
import Derived.Test.YtpmmnnaaoideeaaGreatGT20
set_option linter.unusedSimpArgs false
set_option linter.unusedVariables false
namespace Go.Proofs.YtpmmnnaaoideeaaGreat
open Go Go.Am Go.Wk
theorem vicF_spec (cand:Nat → Tun → Bool) (ts:List Tun):∀ (r:List Tun) (i:Nat) (b:Int),r = ts.drop i → vicF cand ts b i r = b ∨ ∃ (j:Nat) (t:Tun),vicF cand ts b i r = j ∧ ts[j]? = some t ∧ cand j t = true:=by
 intro r
 induction r with
 | nil=>intro i b _; exact .inl rfl
 | cons t r ih =>
   intro i b h
   have ht:ts[i]? = some t:=by
     have:=congrArg (fun l=>l[0]?) h
     simpa using this.symm
   have hr:r = ts.drop (i + 1):=by
     have:=congrArg List.tail h
     simpa using this
   simp only [vicF]
   rcases ih (i + 1) (if (cand i t && (decide (b < 0) || betT t (ts.getD b.toNat tun0))) = true then (i:Int) else b) hr with e | e
   · rw [e]
     split
     · rename_i g
       simp only [Bool.and_eq_true] at g
       exact .inr ⟨i,t,rfl,ht,g.1⟩
     · exact .inl rfl
   · exact .inr e
def vicL (l:List Lnk) (ts:List Tun) (us:List Int) (c:Con):Nat → List Lnk → List Int → List Int → List Int × Int
 | 0,_,_,_=>([],19)
 | f + 1,r,ch,ids =>
   if (us.filter fun x=>!fullP r c.Band x) = [] then (ids,0)
   else if vicF (candP l (us.filter fun x=>!fullP r c.Band x) c ch) ts (-1) 0 ts < 0 then ([],19)
   else vicL l ts us c f (chA (ts.getD (vicF (candP l (us.filter fun x=>!fullP r c.Band x) c ch) ts (-1) 0 ts).toNat tun0).W.Band (ts.getD (vicF (candP l (us.filter fun x=>!fullP r c.Band x) c ch) ts (-1) 0 ts).toNat tun0).W.Hold.toNat (usesL l (ts.getD (vicF (candP l (us.filter fun x=>!fullP r c.Band x) c ch) ts (-1) 0 ts).toNat tun0).P) r)
     (ch ++ [vicF (candP l (us.filter fun x=>!fullP r c.Band x) c ch) ts (-1) 0 ts]) (ids ++ [(ts.getD (vicF (candP l (us.filter fun x=>!fullP r c.Band x) c ch) ts (-1) 0 ts).toNat tun0).ID])
def vicN (l:List Lnk) (ts:List Tun) (path:List Int) (c:Con):List Int × Int :=
 if amtB c.Setup c.Band = false then ([],5) else if hasB (usesL l path) (-1) = true then ([],20) else vicL l ts (usesL l path) c (ts.length + 1) l [] []
theorem chA_skip {v:Int} {h:Nat} {us:List Int} {l:List Lnk}:chA v h (-1 :: us) l = chA v h us l:=by
 apply List.ext_getElem?
 intro j
 rw [chA_get,chA_get,cntI_cons,if_neg (by omega)]
 rfl
theorem chA_nil {v:Int} {h:Nat} {l:List Lnk}:chA v h [] l = l:=by
 apply List.ext_getElem?
 intro j
 rw [chA_get]
 cases l[j]? <;> simp [cntI,chR_zero]
set_option maxHeartbeats 4000000 in
set_option maxRecDepth 10000 in
theorem t43n (H:List (List AVal)) (cs:List AVal) (hf:low H.length (.fn 33 [] cs) = true) (hH:LeBoxes H.length H H):CFun Tryz.prog 31 [.sl 1 [] .full,.fn 33 [] cs] H (.sl 1 [] .full) H:=by
 have h69:CFun Tryz.prog 60 [.sl 1 [] .full,.fn 33 [] cs] H (.int .i64 (-1)) H:=by
   refine CFun.intro (tr:=[]) (fz:=[]) (n:=19) (rs:=[.tmp 4]) Tryz.func60 rfl (by kernel_rfl) rfl rfl mixed (by kernel_rfl) (by simp) (by simp) ?_
   simp
   refine LoopK.intro (tr:=[]) mixed (by kernel_rfl) (fun j:Nat=>[(0,.sl 1 [] .sh),(7,.int .i64 0),(8,.int .i64 0)]) (fun _=>H) (fun _=>True) (fun j=>j) 0 trivial ?_ ?_
   · simp [hH]
   · intro j _
     simp [hH]
 refine CFun.intro (tr:=[]) (fz:=[]) (n:=42) (rs:=[.tmp 4]) Tryz.func31 rfl (by kernel_rfl) rfl rfl mixed (by kernel_rfl) (by simp) (by simp) ?_
 simp
 refine ⟨_,_,.inl h69,by simp,?_⟩
 simp [hH]
end Go.Proofs.YtpmmnnaaoideeaaGreat

/- tunnel.Victims, by the program. -/
namespace Go.Proofs.YtpmmnnaaoideeaaGreat
open Go Go.Am Go.Wk
theorem chunkI (l:List Int) (f:Nat) (h:l.length = f):chunk false (l.map encI) 0 1 f = l.map encI:=by
 apply List.ext_getElem?
 intro j
 rw [chunk_get]
 by_cases e:j < f
 · rw [if_pos e]
   have:j < (l.map encI).length:=by simp; omega
   rw [List.getElem?_eq_getElem this]
   simp [List.getD_eq_getElem?_getD,show j < l.length by omega,AVal.dis]
 · rw [if_neg e,List.getElem?_eq_none (by simp; omega)]
theorem chR_ge {h:Nat} (h8:8 ≤ h) (v:Int) (x:Lnk):chR h v x = x:=by
 have:(fun k=>if h ≤ k ∧ k < 8 then x.Fr k + v else x.Fr k) = x.Fr:=by
   funext k; rw [if_neg (by omega)]
 unfold chR
 rw [this]
structure VS where
  r:List Lnk
  ch:List Int
  ids:List Int
theorem nodup_len_int {ch:List Int} {n:Nat} (hd:ch.Nodup) (hb:∀ x ∈ ch,0 ≤ x ∧ x < n):ch.length ≤ n:=by
 have hl:=nodup_length (l:=ch.map Int.toNat) (n:=n) (by
   unfold List.Nodup at hd ⊢
   rw [List.pairwise_map]
   refine hd.imp_of_mem ?_
   intro a b ha hb' h e
   have:=hb a ha
   have:=hb b hb'
   omega) (fun x hx=>by
   obtain ⟨a,ha,rfl⟩:=List.mem_map.1 hx
   have:=hb a ha
   omega)
 simpa using hl
set_option maxHeartbeats 32000000 in
set_option maxRecDepth 10000 in
theorem t18 (l:List Lnk) (n:Nat) (hn:l.length = n) (hn2:n < 1000) (hB:∀ x ∈ l,∀ k,k < 8 → -1125899906842624 ≤ x.Fr k ∧ x.Fr k ≤ 1125899906842624) (ts:List Tun) (r:Nat) (hr:ts.length = r) (hr2:r ≤ 100)
   (hts:∀ t ∈ ts,t.P.length ≤ 30 ∧ t.W.Band ≤ 1099511627776 ∧ inI t.W.Hold) (p:List Int) (m:Nat) (hm:p.length = m) (hm2:m ≤ 1000) (c:Con) :
   CFun Tryz.prog 8 [.sl 13 (l.map encL) .sh,.sl 12 (ts.map encT) .sh,.sl 1 (p.map encI) .sh,encC c] [] (.tup [.sl 1 ((vicN l ts p c).1.map encI) .sh,.int .i64 (vicN l ts p c).2]) []:=by
 refine CFun.intro (tr:=[60,64,10000014000006]) (fz:=[]) (n:=117) (rs:=[.tmp 8,.tmp 9]) Tryz.func8 rfl (by kernel_rfl) rfl rfl mixed (by kernel_rfl) (by simp) (by simp) ?_
 have h41:=fun H=>(t41 l n hn (by omega) p m hm (by omega)).up' H rfl rfl
 have h42:=fun H=>(c24 (usesL l p) (m - 1) (by rw [usesL_len,hm]) (by omega) (-1)).up' H rfl rfl
 unfold vicN
 by_cases a1:c.Setup < 0
 · simp [amtB_false (b:=c.Band) (.inl a1),a1]
 by_cases a2:7 < c.Setup
 · simp [amtB_false (b:=c.Band) (.inr (.inl a2)),a1,a2]
 by_cases a3:c.Band < 0
 · simp [amtB_false (h:=c.Setup) (.inr (.inr (.inl a3))),a1,a2,a3]
 by_cases a4:1099511627776 < c.Band
 · simp [amtB_false (h:=c.Setup) (.inr (.inr (.inr a4))),a1,a2,a3,a4]
 rw [amtB_true (h:=c.Setup) (b:=c.Band) (by omega),if_neg (by simp)]
 by_cases g2:hasB (usesL l p) (-1) = true
 · rw [g2] at h42
   rw [if_pos g2]
   simp [a1,a2,a3,a4]
   refine ⟨_,_,.inl (by simpa using h41 _),by simp,?_⟩
   simp
   refine ⟨_,_,.inl (by simpa using h42 _),by simp,?_⟩
   simp
 have g2':hasB (usesL l p) (-1) = false:=by simpa using g2
 rw [g2'] at h42
 rw [if_neg g2]
 have hus:∀ u ∈ usesL l p,0 ≤ u ∧ u < n:=by
   intro u hu
   have h1:=usesL_range l p u hu
   rw [hasB_iff] at g2
   have:u ≠ -1:=fun e=>g2 (e ▸ hu)
   omega
 have hul:(usesL l p).length = m - 1:=by rw [usesL_len,hm]
 obtain ⟨us,hU⟩:∃ us,us = usesL l p:=⟨_,rfl⟩
 rw [← hU] at h41 h42 hus hul ⊢
 clear hU g2
 by_cases hne:us = []
 · subst hne
   have hv0:vicL l ts [] c (ts.length + 1) l [] [] = ([],0):=by simp [vicL]
   rw [hv0]
   have k44:=fun H=>t44n.up' H rfl rfl
   by_cases hl:l = []
   · subst hl
     have k34:=fun H=>t34n.up' H rfl rfl
     have k43:=t43n [cellsC c,[.sl 13 [] .full]] [.ptr 1 0,.ptr 0 0] (by simp [low,low0]) (by simp)
     simp [a1,a2,a3,a4]
     refine ⟨_,_,.inl (by simpa using h41 _),by simp,?_⟩
     simp
     refine ⟨_,_,.inl (by simpa using h42 _),by simp,?_⟩
     simp
     refine ⟨_,_,.inl (by simpa using k34 _),by simp,?_⟩
     simp
     refine LoopK.intro (tr:=[60,64,10000014000006]) mixed (by kernel_rfl) (fun _:Nat=>[(7,.ptr 0 0),(10,.sl 1 [] .sh),(11,.ptr 1 0),(13,.sl 1 [] .sh)]) (fun _=>[cellsC c,[.sl 13 [] .full]]) (fun _=>True) (fun i=>i) 0 trivial (by simp) ?_
     intro _ _
     simp
     refine ⟨_,_,.inl (by simpa using k44 _),by simp,?_⟩
     simp
     refine ⟨_,_,.inl (by simpa using k43),by simp,?_⟩
     simp
   · have k34:∀ H,CFun Tryz.prog 30 [.sl 13 (l.map encL) .sh] H (.osl H.length 0 l.length none 13) (H ++ [rowC cellsL l]):=fun H=>(t34r l hl (by omega)).upNew H (encL_enc.rowNoid l) rfl rfl
     have hle:=fun k (l:List Lnk)=>encL_enc.rowLe k l
     have k43:=t43n [cellsC c,rowC cellsL l,[.osl 1 0 n none 13]] [.ptr 2 0,.ptr 0 0] (by simp [low,low0]) (by simp [hle])
     simp [a1,a2,a3,a4]
     refine ⟨_,_,.inl (by simpa using h41 _),by simp,?_⟩
     simp
     refine ⟨_,_,.inl (by simpa using h42 _),by simp,?_⟩
     simp
     refine ⟨_,_,.inl (by simpa using k34 _),by simp,?_⟩
     simp
     refine LoopK.intro (tr:=[60,64,10000014000006]) mixed (by kernel_rfl) (fun _:Nat=>[(7,.ptr 0 0),(10,.sl 1 [] .sh),(11,.ptr 2 0),(13,.sl 1 [] .sh)]) (fun _=>[cellsC c,rowC cellsL l,[.osl 1 0 n none 13]]) (fun _=>True) (fun i=>i) 0 trivial (by simp [hle,hn]) ?_
     intro _ _
     simp
     refine ⟨_,_,.inl (by simpa using k44 _),by simp,?_⟩
     simp
     refine ⟨_,_,.inl (by simpa using k43),by simp,?_⟩
     simp
 have hl:l ≠ []:=by
   intro e
   obtain ⟨u,us',hu⟩:=List.exists_cons_of_ne_nil hne
   have:=hus u (by rw [hu]; simp)
   rw [e] at hn
   simp at hn
   omega
 have hn0:0 < n:=by rw [← hn]; exact List.length_pos_iff.2 hl
 have k34:∀ H,CFun Tryz.prog 30 [.sl 13 (l.map encL) .sh] H (.osl H.length 0 l.length none 13) (H ++ [rowC cellsL l]):=fun H=>(t34r l hl (by omega)).upNew H (encL_enc.rowNoid l) rfl rfl
 have hle:=fun k (l:List Lnk)=>encL_enc.rowLe k l
 have hrl:=encL_enc.rowLen
 have hle2:=fun k us=>encI_le k us
 have k44:∀ H,CFun Tryz.prog 32 [.sl 1 (us.map encI) .sh] H (.osl H.length 0 us.length none 1) (H ++ [us.map encI]):=fun H=>(t44r us hne (by omega)).upNew H (by rw [List.all_map]; simp [noid0,encI]) rfl rfl
 simp [a1,a2,a3,a4]
 refine ⟨_,_,.inl (by simpa using h41 _),by simp,?_⟩
 simp
 refine ⟨_,_,.inl (by simpa using h42 _),by simp,?_⟩
 simp
 refine ⟨_,_,.inl (by simpa using k34 _),by simp,?_⟩
 simp
 clear h41 h42 k34
 obtain ⟨T,hT⟩:∃ T,T = vicL l ts us c (ts.length + 1) l [] []:=⟨_,rfl⟩
 rw [← hT]
 refine LoopK.intro (tr:=[60,64,10000014000006]) mixed (by kernel_rfl) (fun s:VS=>[(0,.sl 13 (l.map encL) .sh),(1,.sl 12 (ts.map encT) .sh),(7,.ptr 0 0),(10,.sl 1 (us.map encI) .sh),(11,.ptr 2 0),(12,.sl 1 (s.ch.map encI) .own),(13,.sl 1 (s.ids.map encI) .own)]) (fun s=>[cellsC c,rowC cellsL s.r,[.osl 1 0 n none 13]])
   (fun s=>(s.r.length = n ∧ s.ids.length = s.ch.length ∧ s.ch.Nodup ∧ ∀ x ∈ s.ch,0 ≤ x ∧ x < r) ∧ (∀ x ∈ s.r,∀ k,k < 8 → -1125899906842624 - 32985348833280 * s.ch.length ≤ x.Fr k ∧ x.Fr k ≤ 1125899906842624 + 32985348833280 * s.ch.length) ∧ T = vicL l ts us c (ts.length + 1 - s.ch.length) s.r s.ch s.ids) (fun s=>r + 1 - s.ch.length) ⟨l,[],[]⟩ ?_ ?_ ?_
 · exact ⟨⟨hn,rfl,List.nodup_nil,by simp⟩,fun x hx k hk=>by have:=hB x hx k hk; simp; omega,hT⟩
 · simp [hle,hn]
 clear hB hT
 rintro ⟨rm,ch,ids⟩ ⟨⟨v1,v2,v3,v4⟩,v5,v6⟩
 simp only at v1 v2 v3 v4 v5 v6
 have hchl:=nodup_len_int v3 v4
 rw [hr,show r + 1 - ch.length = (r - ch.length) + 1 by omega] at v6
 simp only [vicL] at v6
 have hdel:=t43 c rm n v1 us us.length rfl (by omega) hus
 have hv:vicF (candP l (us.filter fun x=>!fullP rm c.Band x) c ch) ts (-1) 0 ts = -1 ∨ ∃ (j:Nat) (t:Tun),vicF (candP l (us.filter fun x=>!fullP rm c.Band x) c ch) ts (-1) 0 ts = j ∧ ts[j]? = some t ∧ candP l (us.filter fun x=>!fullP rm c.Band x) c ch j t = true:=vicF_spec _ ts ts 0 (-1) (by simp)
 have hfl:(us.filter fun x=>!fullP rm c.Band x).length ≤ us.length:=List.length_filter_le _ _
 have h46:=fun H=>(t46 l n hn (by omega) ts r hr (by omega) (fun t ht=>by have:=(hts t ht).1; omega) (us.filter fun x=>!fullP rm c.Band x) _ rfl (by omega) c ch _ rfl (by omega)).up' H (by simp [noid,noid0]) rfl
 generalize (us.filter fun x=>!fullP rm c.Band x) = fu at *
 have hcand:∀ (j:Nat) (t:Tun),candP l fu c ch j t = true → 0 < t.W.Band ∧ (j:Int) ∉ ch:=by
   intro j t h
   unfold candP at h
   simp only [Bool.and_eq_true,Bool.not_eq_true',Bool.or_eq_false_iff,decide_eq_false_iff_not] at h
   refine ⟨by omega,fun hc=>?_⟩
   rw [← hasB_iff] at hc
   rw [hc] at h
   simp at h
 generalize candP l fu c ch = cand at *
 obtain ⟨f,hfe⟩:∃ f,fu.length = f:=⟨_,rfl⟩
 rw [hfe] at hdel hfl
 simp only [hV] at hdel
 have k44':=k44 [cellsC c,rowC cellsL rm,[.osl 1 0 n none 13]]
 by_cases q0:fu = []
 · rw [if_pos q0] at v6
   subst q0
   have hf0:f = 0:=hfe.symm
   subst hf0
   simp
   refine ⟨_,_,.inl (by simpa using k44'),by simp,?_⟩
   simp
   refine ⟨_,_,.inl (by simpa using hdel),by simp,?_⟩
   have hu0:0 < us.length:=List.length_pos_iff.2 hne
   have hc0:chunk false ([]:List AVal) 0 1 0 = []:=rfl
   simp [v6,hu0,hc0]
 rw [if_neg q0] at v6
 have hf0:0 < f:=by rw [← hfe]; exact List.length_pos_iff.2 q0
 have hf0':¬ f = 0:=by omega
 have k3:(fu.map encI ++ List.replicate (us.length - f) AVal.undef).take f = fu.map encI:=by
   rw [List.take_append_of_le_length (by simp [hfe]),List.take_of_length_le (by simp [hfe])]
 have k4:=chunkI fu f hfe
 have k5:∀ x ∈ fu.map encI,x.tree = true:=List.all_eq_true.1 (encI_tree fu)
 have hu0:0 < us.length:=List.length_pos_iff.2 hne
 have k6:f + (us.length - f) = us.length:=by omega
 rcases hv with hv | ⟨j,t,hv,htj,hcj⟩
 · rw [if_pos (by rw [hv]; decide)] at v6
   rw [hv] at h46
   simp
   refine ⟨_,_,.inl (by simpa using k44'),by simp,?_⟩
   simp
   refine ⟨_,_,.inl (by simpa using hdel),by simp,?_⟩
   simp [hu0,hfe,hf0,hf0',k3,k4,k6]
   refine ⟨_,_,.inl (by simpa using h46 _),by simp,?_⟩
   simp [v6]
 rw [hv,if_neg (by omega),Int.toNat_natCast] at v6
 rw [hv] at h46
 have htd:ts.getD j tun0 = t:=by rw [List.getD_eq_getElem?_getD,htj]; rfl
 rw [htd] at v6
 obtain ⟨hb0,hjc⟩:=hcand j t hcj
 have htm:=List.mem_of_getElem? htj
 obtain ⟨hp30,hb1,hhi⟩:=hts t htm
 have hj:j < r:=by rw [← hr]; exact (List.getElem?_eq_some_iff.1 htj).1
 have hnd:(ch ++ [(j:Int)]).Nodup:=by
   rw [List.nodup_append]
   refine ⟨v3,by simp,fun a ha b hb e=>?_⟩
   simp at hb
   subst hb
   subst e
   exact hjc ha
 have hrb:∀ x ∈ ch ++ [(j:Int)],0 ≤ x ∧ x < r:=by
   intro x hx
   rcases List.mem_append.1 hx with hx | hx
   · exact v4 x hx
   · simp at hx; subst hx; omega
 have hcl:=nodup_len_int hnd hrb
 simp only [List.length_append,List.length_cons,List.length_nil] at hcl
 have k41:=fun H=>(t41 l n hn (by omega) t.P t.P.length rfl (by omega)).up' H rfl rfl
 have hwr:=usesL_range l t.P
 have hwl:(usesL l t.P).length ≤ 30:=by rw [usesL_len]; omega
 clear hcand hcj
 generalize usesL l t.P = uv at *
 obtain ⟨w,hw⟩:∃ w,uv.length = w:=⟨_,rfl⟩
 rw [hw] at hwl
 obtain ⟨h,hh⟩:∃ h:Nat,h = t.W.Hold.toNat:=⟨_,rfl⟩
 rw [← hh] at v6
 have hmx:(if t.W.Hold < 0 then (0:Int) else t.W.Hold) = (h:Int):=by rw [hh]; split <;> omega
 unfold inI at hhi
 have s1:ch.length + 1 ≤ 140737488355328:=by omega
 have s2:(ch.length + 1) * 8 ≤ 140737488355328:=by omega
 have j0:¬ (j:Int) < 0:=by omega
 simp
 refine ⟨_,_,.inl (by simpa using k44'),by simp,?_⟩
 simp
 refine ⟨_,_,.inl (by simpa using hdel),by simp,?_⟩
 simp [hu0,hfe,hf0,hf0',k3,k4,k6]
 refine ⟨_,_,.inl (by simpa using h46 _),by simp,?_⟩
 simp [j0,hj,hr,htj,gE htj,v2,s1,s2]
 refine ⟨_,_,.inl (by simpa using k41 _),by simp,?_⟩
 simp [hw]
 refine LoopK.intro (tr:=[60,64,10000014000006]) mixed (by kernel_rfl) (fun s:Nat × List Lnk=>[(0,.sl 13 (l.map encL) .sh),(1,.sl 12 (ts.map encT) .sh),(7,.ptr 0 0),(10,.sl 1 (us.map encI) .sh),(11,.ptr 2 0),(12,.sl 1 ((ch ++ [(j:Int)]).map encI) .own),(13,.sl 1 ((ids ++ [t.ID]).map encI) .own),(15,.int .i64 j),(78,.sl 1 (uv.map encI) .sh),(79,.int .i64 w),(80,.int .i64 s.1)]) (fun s=>[cellsC c,rowC cellsL s.2,[.osl 1 0 n none 13]])
   (fun s=>s.1 ≤ w ∧ s.2.length = n ∧ (∀ x ∈ s.2,∀ k,k < 8 → -1125899906842624 - 32985348833280 * ch.length - 1099511627776 * s.1 ≤ x.Fr k ∧ x.Fr k ≤ 1125899906842624 + 32985348833280 * ch.length + 1099511627776 * s.1) ∧ chA t.W.Band h uv rm = chA t.W.Band h (uv.drop s.1) s.2) (fun s=>w - s.1) (0,rm) ?_ ?_ ?_
 · exact ⟨Nat.zero_le _,v1,fun x hx k hk=>by have:=v5 x hx k hk; simp; omega,rfl⟩
 · simp [hle]
 clear h46 k41 v5 hdel k44 k44'
 rintro ⟨q,cur⟩ ⟨q1,q2,q3,q4⟩
 simp only at q1 q2 q3 q4
 by_cases hq:q < w
 case neg =>
   have:q = w:=by omega
   subst this
   rw [List.drop_eq_nil_of_le (by omega),chA_nil] at q4
   rw [q4] at v6
   simp
   refine ⟨⟨cur,ch ++ [(j:Int)],ids ++ [t.ID]⟩,⟨⟨q2,by simp [v2],hnd,hrb⟩,fun x hx k hk=>?_,?_⟩,?_,?_⟩
   · have:=q3 x hx k hk
     simp only [List.length_append,List.length_cons,List.length_nil]
     omega
   · rw [v6]
     simp only [List.length_append,List.length_cons,List.length_nil]
     congr 1
     omega
   · simp only [List.length_append,List.length_cons,List.length_nil]
     omega
   · simp [hle]
 obtain ⟨v,hvq⟩:∃ v,uv[q]? = some v:=⟨_,List.getElem?_eq_getElem (by omega)⟩
 obtain ⟨u0,u1⟩:=hwr v (List.mem_of_getElem? hvq)
 have hdd:uv.drop q = v :: uv.drop (q + 1):=by
   obtain ⟨k1,k2⟩:=List.getElem?_eq_some_iff.1 hvq
   rw [List.drop_eq_getElem_cons k1,k2]
 rw [hdd] at q4
 have w1:IntKind.i64.wrap ((q:Int) + 1) = q + 1:=wrap_in (by omega)
 by_cases hm1:v = -1
 · subst hm1
   rw [chA_skip] at q4
   simp [hq,hw,hvq,gE hvq,hj,hr,htj,gE htj,hmx]
   refine LoopK.intro (tr:=[60,64,10000014000006]) mixed (by kernel_rfl) (fun _:Nat=>[(0,.sl 13 (l.map encL) .sh),(1,.sl 12 (ts.map encT) .sh),(7,.ptr 0 0),(10,.sl 1 (us.map encI) .sh),(11,.ptr 2 0),(12,.sl 1 ((ch ++ [(j:Int)]).map encI) .own),(13,.sl 1 ((ids ++ [t.ID]).map encI) .own),(15,.int .i64 j),(17,.int .i64 (-1)),(18,.int .i64 h),(78,.sl 1 (uv.map encI) .sh),(79,.int .i64 w),(80,.int .i64 q)]) (fun _=>[cellsC c,rowC cellsL cur,[.osl 1 0 n none 13]]) (fun _=>True) (fun i=>i) 0 trivial (by simp [hle]) ?_
   intro _ _
   simp [w1]
   exact ⟨q + 1,cur,⟨by omega,q2,fun x hx k hk=>by have:=q3 x hx k hk; omega,q4⟩,by omega,by simp [hle]⟩
 obtain ⟨i,rfl⟩:∃ i:Nat,v = i:=⟨v.toNat,by omega⟩
 have hi:i < n:=by omega
 obtain ⟨x,hx⟩:∃ x,cur[i]? = some x:=⟨_,List.getElem?_eq_getElem (by omega)⟩
 rw [← chA_cons hx] at q4
 have hxb:=q3 x (List.mem_of_getElem? hx)
 have i0:(0:Int) ≤ i:=by omega
 simp [hq,hw,hvq,gE hvq,hj,hr,htj,gE htj,hmx]
 refine LoopK.intro (tr:=[60,64,10000014000006]) mixed (by kernel_rfl) (fun s:Nat × Lnk=>[(0,.sl 13 (l.map encL) .sh),(1,.sl 12 (ts.map encT) .sh),(7,.ptr 0 0),(10,.sl 1 (us.map encI) .sh),(11,.ptr 2 0),(12,.sl 1 ((ch ++ [(j:Int)]).map encI) .own),(13,.sl 1 ((ids ++ [t.ID]).map encI) .own),(15,.int .i64 j),(17,.int .i64 i),(18,.int .i64 s.1),(78,.sl 1 (uv.map encI) .sh),(79,.int .i64 w),(80,.int .i64 q)]) (fun s=>[cellsC c,rowC cellsL (cur.set i s.2),[.osl 1 0 n none 13]])
   (fun s=>h ≤ s.1 ∧ (s.1 ≤ 8 ∨ s.1 = h) ∧ (∀ k,k < 8 → -1125899906842624 - 32985348833280 * ch.length - 1099511627776 * ((q + 1:Nat):Int) ≤ s.2.Fr k ∧ s.2.Fr k ≤ 1125899906842624 + 32985348833280 * ch.length + 1099511627776 * ((q + 1:Nat):Int)) ∧ (∀ k,s.1 ≤ k → s.2.Fr k = x.Fr k) ∧ chR h t.W.Band x = chR s.1 t.W.Band s.2) (fun s=>8 - s.1) (h,x) ?_ ?_ ?_
 · exact ⟨Nat.le_refl _,.inr rfl,fun k hk=>by have:=hxb k hk; show _ ≤ x.Fr k ∧ x.Fr k ≤ _; constructor <;> omega,fun _ _=>rfl,rfl⟩
 · have hsame:cur.set i x = cur:=by
     apply List.ext_getElem?
     intro j'
     rw [List.getElem?_set]
     split
     · rename_i e; subst e; rw [if_pos (by omega),hx]
     · rfl
   simp [hsame,hle]
 rintro ⟨k,z⟩ ⟨p1,p2,p3,p5,p4⟩
 simp only at p1 p2 p3 p4 p5
 have hsl:(cur.set i z).length = n:=by rw [List.length_set]; exact q2
 by_cases hk:k < 8
 case neg =>
   have hk':¬ (k:Int) < 8:=by omega
   rw [chR_ge (h:=k) (by omega)] at p4
   rw [p4] at q4
   simp [i0,hk,hk',w1]
   refine ⟨q + 1,cur.set i z,⟨by omega,hsl,fun y hy=>?_,q4⟩,by omega,by simp [hle]⟩
   rcases List.mem_or_eq_of_mem_set hy with hy | rfl
   · intro k hk
     have:=q3 y hy k hk
     omega
   · exact p3
 have hk':(k:Int) < 8:=by omega
 have hk7:k ≤ 7:=by omega
 have hz:(cur.set i z)[i]? = some z:=by rw [List.getElem?_set_self (by omega)]
 have hg:=rowL_get hz hk
 have hset:=rowL_set hz hk (z.Fr k + t.W.Band)
 rw [List.set_set] at hset
 have hrc:=hrl (cur.set i z)
 rw [hsl] at hrc
 have hzx:=p5 k (Nat.le_refl _)
 have hxk:=hxb k hk
 have hv:-1125899906842624 - 32985348833280 * (ch.length:Int) - 1099511627776 * ((q + 1:Nat):Int) ≤ z.Fr k + t.W.Band ∧ z.Fr k + t.W.Band ≤ 1125899906842624 + 32985348833280 * (ch.length:Int) + 1099511627776 * ((q + 1:Nat):Int):=by
   rw [hzx]
   constructor <;> omega
 have w2:IntKind.i64.wrap ((k:Int) + 1) = k + 1:=wrap_in (by omega)
 have w3:IntKind.i64.wrap (z.Fr k + t.W.Band) = z.Fr k + t.W.Band:=wrap_in (by omega)
 have b1:i * 13 + 4 + k < n * 13:=by omega
 have b2:i * 13 + 4 + k + 1 ≤ n * 13:=by omega
 have hst:=chR_step hk t.W.Band z
 simp [i0,hk,hk',hk7,hi,hg,gE hg,hrc,b1,b2,hj,hr,htj,gE htj,w3]
 simp [hset,w2]
 refine ⟨k + 1,setF z k (z.Fr k + t.W.Band),⟨by omega,by omega,fun j hj=>?_,fun j hj=>?_,by rw [hst]; exact p4⟩,by omega,by simp [hle]⟩
 · show _ ≤ updF z.Fr k (z.Fr k + t.W.Band) j ∧ updF z.Fr k (z.Fr k + t.W.Band) j ≤ _
   unfold updF
   split
   · exact hv
   · exact p3 j hj
 · show updF z.Fr k (z.Fr k + t.W.Band) j = x.Fr j
   unfold updF
   rw [if_neg (by omega)]
   exact p5 j (by omega)
end Go.Proofs.YtpmmnnaaoideeaaGreat

/- tunnel.Teardown, by the program. -/
namespace Go.Proofs.YtpmmnnaaoideeaaGreat
open Go Go.Am Go.Wk
def idT (ts:List Tun) (id:Int):Int:=idxL (isID id) ts 0
def tdN (l:List Lnk) (ts:List Tun) (id:Int):List Lnk × List Tun × Int :=
 if idT ts id < 0 then ([],[],6)
 else
   let x:=ts.getD (idT ts id).toNat tun0
   let r:=if x.P = [] then (l,0) else relN l x
   if r.2 ≠ 0 then ([],[],r.2) else (r.1,ts.eraseIdx (idT ts id).toNat,0)
set_option maxHeartbeats 8000000 in
set_option maxRecDepth 10000 in
theorem t23 (l:List Lnk) (n:Nat) (hn:l.length = n) (hn2:n < 1000000) (hF:∀ x ∈ l,okF x) (ts:List Tun) (r:Nat) (hr:ts.length = r) (hr2:r ≤ 100000) (hs:∀ t ∈ ts,smT t ∧ t.P.length < 1000000) (id:Int) :
   CFun Tryz.prog 19 [.sl 13 (l.map encL) .sh,.sl 12 (ts.map encT) .sh,.int .i64 id] [] (.tup [.sl 13 ((tdN l ts id).1.map encL) .sh,.sl 12 ((tdN l ts id).2.1.map encT) .sh,.int .i64 (tdN l ts id).2.2]) []:=by
 refine CFun.intro (tr:=[]) (fz:=[]) (n:=45) (rs:=[.tmp 6,.tmp 7,.tmp 8]) Tryz.func19 rfl (by kernel_rfl) rfl rfl mixed (by kernel_rfl) (by simp) (by simp) ?_
 have h51:=t51 ts r hr (by omega) 53 [.int .i64 id] id (by simp) (t52 id)
 have h34:=fun H=>(t34d l (by omega)).up' H rfl rfl
 rcases idxL_spec (isID id) ts 0 with ⟨e1,e2⟩ | ⟨i,e1,e2,e3⟩
 · rw [e1] at h51
   have:tdN l ts id = ([],[],6):=by unfold tdN idT; rw [e1]; rfl
   rw [this]
   simp
   refine ⟨_,_,.inl (by simpa using h51),by simp,?_⟩
   simp
 · rw [e1,Nat.zero_add] at h51
   have hid:idT ts id = i:=by unfold idT; rw [e1,Nat.zero_add]
   have hi:i < r:=by rw [← hr]; exact e2
   obtain ⟨x,hx⟩:∃ x,ts[i]? = some x:=⟨_,List.getElem?_eq_getElem (by omega)⟩
   have hxm:=List.mem_of_getElem? hx
   have htd:tdN l ts id = if (if x.P = [] then (l,0) else relN l x).2 ≠ 0 then ([],[],(if x.P = [] then (l,0) else relN l x).2) else ((if x.P = [] then (l,0) else relN l x).1,ts.eraseIdx i,0):=by
     unfold tdN
     rw [hid,if_neg (by omega)]
     simp only [Int.toNat_natCast]
     rw [List.getD_eq_getElem?_getD,hx]
     rfl
   have w1:IntKind.i64.wrap ((i:Int) + 1) = i + 1:=wrap_in (by omega)
   have h54:CFun Tryz.prog 43 [.sl 12 (ts.map encT) .sh] [[AVal.int .i64 id]] (.osl 1 0 r none 12) [[AVal.int .i64 id],rowC ceT ts]:=(t54r ts r hr (by omega) (by omega) fun t ht=>(hs t ht).1).upNew [[AVal.int .i64 id]] (eT.rowNoid ts) (by simp [noid,noid0]) rfl
   have h53:CFun Tryz.prog 54 [.osl 1 0 r none 12,.int .i64 i,.int .i64 (i + 1)] [[AVal.int .i64 id],rowC ceT ts] (.sl 12 ((ts.eraseIdx i).map encT) .sh) [[AVal.int .i64 id],[]]:=(t53 ts i r hr (by omega) hi).at (H:=[[AVal.int .i64 id],rowC ceT ts]) (id:=1) rfl (eT.rowNoid ts) rfl (by simp [low]) rfl
   have h15:=fun H=>(t15 l n hn hn2 hF x _ rfl (hs x hxm).2).up' H (by simp [noid,noid0]) (by simp [noid,noid0])
   rw [htd]
   by_cases hp:x.P = []
   · simp only [hp,if_true]
     simp [hid]
     refine ⟨_,_,.inl (by simpa using h51),by simp,?_⟩
     simp
     refine ⟨_,_,.inl (by simpa using h34 _),by simp,?_⟩
     simp [hr,hi,hx,gE hx,hp,w1]
     refine ⟨_,_,.inl (by simpa using h54),by simp,?_⟩
     simp
     refine ⟨_,_,.inl (by simpa [w1] using h53),by simp,?_⟩
     simp
   · simp only [hp,if_false]
     generalize relN l x = q at *
     have hp':0 < x.P.length:=List.length_pos_iff.2 hp
     simp [hid]
     refine ⟨_,_,.inl (by simpa using h51),by simp,?_⟩
     simp
     refine ⟨_,_,.inl (by simpa using h34 _),by simp,?_⟩
     simp [hr,hi,hx,gE hx,hp,hp',w1]
     refine ⟨_,_,.inl (by simpa using h15 _),by simp,?_⟩
     by_cases hq:q.2 = 0
     · simp [hq]
       refine ⟨_,_,.inl (by simpa using h54),by simp,?_⟩
       simp
       refine ⟨_,_,.inl (by simpa [w1] using h53),by simp,?_⟩
       simp
     · simp [hq]
end Go.Proofs.YtpmmnnaaoideeaaGreat

/- The routes that are found, as tunnels see them. No program. -/
namespace Go.Proofs.YtpmmnnaaoideeaaGreat
open Go Go.Am Go.Wk
theorem findI_ne {l:List Lnk} {a b:Int} (h:(findL l a b).2 = true):findI l a b ≠ -1:=by
 have h1:l.any (isL a b) = true:=by
   unfold findL at h
   cases hf:l.find? (isL a b) with
   | none=>rw [hf] at h; cases h
   | some z=>exact List.any_eq_true.2 ⟨z,List.mem_of_find?_eq_some hf,List.find?_some hf⟩
 rw [idxL_any _ _ 0] at h1
 unfold findI
 simp only [decide_eq_true_eq] at h1
 omega
theorem goR_uses {l:List Lnk} {c:Con}:∀ (xs:List Int) (a:Int) (k:Nat),goR l c (some a) k xs = true → ∀ u ∈ usesL l (a :: xs),u ≠ -1
 | [],a,k,_,u,hu=>by simp [usesL] at hu
 | x :: xs,a,k,h,u,hu=>by
   simp only [goR] at h
   split at h
   · cases h
   split at h
   · cases h
   rename_i h1 h2
   simp only [Bool.not_eq_true,Bool.not_eq_false',Bool.and_eq_true] at h2
   simp only [usesL,List.mem_cons] at hu
   rcases hu with rfl | hu
   · exact findI_ne h2.1
   · exact goR_uses xs x _ h u hu
theorem routeN_path {N:Nat} {l:List Lnk} {fr to:Int} {c:Con} (g1:checkE N l c = 0) (h1:outN N fr = false) (h2:outN N to = false) (h0:(routeN N l fr to c).2.2 = 0) :
   (routeN N l fr to c).1 ≠ [] ∧ (routeN N l fr to c).1.getD 0 0 = fr ∧ (routeN N l fr to c).1.getD ((routeN N l fr to c).1.length - 1) 0 = to ∧ repB (routeN N l fr to c).1 = false ∧ hasB (usesL l (routeN N l fr to c).1) (-1) = false ∧ (routeN N l fr to c).1.length ≤ N:=by
 have h3:hasB c.Avoid fr = false:=by
   cases h:hasB c.Avoid fr with
   | false=>rfl
   | true =>
     exfalso
     unfold routeN at h0
     rw [if_neg (by simpa using g1),if_neg (by simp [h1,h2]),if_pos h] at h0
     cases h0
 obtain ⟨n1,n2,l2,lk,cn⟩:=check_links g1
 obtain ⟨asc,_,lko⟩:=links_asc lk
 have hls:∀ x ∈ l,okLk N x:=fun x hx=>(link_ok (lko x hx)).1
 rcases routeN_cases g1 h1 h2 h3 with ⟨e,_⟩ | ⟨ys,d,hb,e⟩
 · rw [e] at h0; cases h0
 · by_cases hr:repB (ndS N fr ys) = true
   · rw [e,if_pos hr] at h0; cases h0
   rw [e,if_neg hr]
   simp only
   obtain ⟨f1,f2⟩:=out_false h1
   obtain ⟨f3,f4⟩:=out_false h2
   have hN:0 < N:=by omega
   have hz1:stT N to c / N = c.Thru.length:=by
     unfold stT
     rw [Nat.mul_comm,Nat.mul_add_div hN,Nat.div_eq_of_lt f4,Nat.add_zero]
   have hz2:stT N to c % N = to.toNat:=by
     unfold stT
     rw [Nat.mul_comm,Nat.mul_add_mod,Nat.mod_eq_of_lt f4]
   have hs2:stF N fr c % N = fr.toNat:=by
     unfold stF entN
     first | (rw [Nat.mul_comm,Nat.mul_add_mod,Nat.mod_eq_of_lt f2]) | (rw [Nat.add_mul_mod_self_right,Nat.mod_eq_of_lt f2]) | skip
   obtain ⟨w1,w2,w3⟩:=walk_goR hls asc hb.w hz1
   rw [hs2,← f1] at w1 w3
   rw [hz2,← f3] at w3
   have hX:ndS N fr ys = fr :: ndI (ys.map (· % N)):=by
     unfold ndS ndI
     rw [List.map_map]
     rfl
   rw [hX] at hr ⊢
   have hb0:∀ x ∈ ndI (ys.map (· % N)),0 ≤ x ∧ x < N:=by
     intro x hx
     unfold ndI at hx
     rw [List.map_map] at hx
     obtain ⟨y,_,rfl⟩:=List.mem_map.1 hx
     have:=Nat.mod_lt y hN
     simp only [Function.comp_apply]
     omega
   generalize ndI (ys.map (· % N)) = X at *
   have hr':repB (fr :: X) = false:=by simpa using hr
   refine ⟨by simp,rfl,?_,hr',?_,?_⟩
   · have:=endN_last fr X
     rw [List.getD_eq_getElem?_getD,List.length_cons,Nat.add_sub_cancel,this,w3]; rfl
   · cases hh:hasB (usesL l (fr :: X)) (-1) with
     | false=>rfl
     | true=>exact absurd rfl (goR_uses X fr _ w1 _ ((hasB_iff _ _).1 hh))
   · have hnd:(fr :: X).Nodup:=by
       rw [repB_iff] at hr
       exact Decidable.not_not.1 hr
     refine nodup_len_int hnd fun x hx=>?_
     rcases List.mem_cons.1 hx with rfl | hx
     · omega
     · exact hb0 x hx
end Go.Proofs.YtpmmnnaaoideeaaGreat

/- tunnel.Setup: what it answers. -/
namespace Go.Proofs.YtpmmnnaaoideeaaGreat
open Go Go.Am Go.Wk
set_option maxHeartbeats 4000000 in
set_option maxRecDepth 10000 in
theorem t54n:CFun Tryz.prog 43 [.sl 12 [] .sh] [] (.sl 12 [] .full) []:=by
 refine CFun.intro (tr:=[]) (fz:=[]) (n:=34) (rs:=[.tmp 2]) Tryz.func43 rfl (by kernel_rfl) rfl rfl mixed (by kernel_rfl) (by simp) (by simp) ?_
 simp
 refine LoopK.intro (tr:=[]) mixed (by kernel_rfl) (fun _:Nat=>[(3,.sl 12 [] .full),(6,.sl 12 [] .sh),(7,.int .i64 0),(8,.int .i64 0)]) (fun _=>[]) (fun _=>True) (fun i=>i) 0 trivial (by simp) ?_
 intro _ _
 simp
def noP (x:Tun):Tun:={ x with P:=[] }
def suV (vs:List Int):List Tun → List Tun → List Lnk → List Lnk × List Tun × Int
 | acc,[],l=>(l,acc,0)
 | acc,x :: ts,l=>if hasB vs x.ID = true then (if (relN l x).2 ≠ 0 then ([],[],(relN l x).2) else suV vs (acc ++ [noP x]) ts (relN l x).1) else suV vs (acc ++ [x]) ts l
def wP (w:Tun) (p:List Int):Tun:={ w with P:=p }
def su2 (l:List Lnk) (ts:List Tun) (w:Tun) (p vs:List Int):List Lnk × List Tun × List Int × Int :=
 if (suV vs [] ts l).2.2 ≠ 0 then ([],[],[],(suV vs [] ts l).2.2)
 else if (resN (suV vs [] ts l).1 (wP w p)).2 ≠ 0 then ([],[],[],(resN (suV vs [] ts l).1 (wP w p)).2)
 else ((resN (suV vs [] ts l).1 (wP w p)).1,insL (suV vs [] ts l).2.1 (posT w.ID (suV vs [] ts l).2.1) (wP w p),vs,0)
noncomputable def suN (n:Int) (l:List Lnk) (ts:List Tun) (w:Tun):List Lnk × List Tun × List Int × Int :=
 if chkT n l ts ≠ 0 then ([],[],[],chkT n l ts)
 else if wantE n ts w ≠ 0 then ([],[],[],wantE n ts w)
 else if (routeN n l w.From w.To w.W).2.2 ≠ 0 then ([],[],[],(routeN n l w.From w.To w.W).2.2)
 else if (vicN l ts (routeN n l w.From w.To w.W).1 w.W).2 ≠ 0 then ([],[],[],(vicN l ts (routeN n l w.From w.To w.W).1 w.W).2)
 else su2 l ts w (routeN n l w.From w.To w.W).1 (vicN l ts (routeN n l w.From w.To w.W).1 w.W).1
@[simp] def encSu (q:List Lnk × List Tun × List Int × Int):AVal:=.tup [.sl 13 (q.1.map encL) .sh,.sl 12 (q.2.1.map encT) .sh,.sl 1 (q.2.2.1.map encI) .sh,.int .i64 q.2.2.2]
theorem suV_len (vs:List Int):∀ (ts acc:List Tun) (l:List Lnk),(suV vs acc ts l).2.2 = 0 → (suV vs acc ts l).2.1.map Tun.ID = acc.map Tun.ID ++ ts.map Tun.ID
 | [],acc,l,_=>by simp [suV]
 | x :: ts,acc,l,h=>by
   simp only [suV] at h ⊢
   split at h
   · rename_i g1
     rw [if_pos g1]
     split at h
     · rename_i g2; exact absurd h g2
     · rename_i g2
       rw [if_neg g2,suV_len vs ts _ _ h]
       simp [noP]
   · rename_i g1
     rw [if_neg g1,suV_len vs ts _ _ h]
     simp
theorem relN_some {l:List Lnk} {t:Tun} (h0:(relN l t).2 = 0):pathE l t = 0 ∧ (∀ u ∈ usesL l t.P,0 ≤ u ∧ u < l.length) ∧ (relN l t).1 = chA t.W.Band t.W.Hold.toNat (usesL l t.P) l ∧
   ∀ (i:Nat) (x:Lnk) (c:Nat),l[i]? = some x → c < cntI i (usesL l t.P) → ∀ k,t.W.Hold.toNat ≤ k → k < 8 → x.Fr k + t.W.Band * c + t.W.Band ≤ x.Cap:=by
 unfold relN at h0 ⊢
 by_cases g1:pathE l t = 0
 case neg=>rw [if_pos g1] at h0; exact absurd h0 g1
 rw [if_neg (by simpa using g1)] at h0 ⊢
 obtain ⟨⟨a1,a2⟩,⟨a3,a4⟩,hus⟩:=pathE_ok g1
 cases hA:addA t.W.Band t.W.Hold.toNat (usesL l t.P) l with
 | none=>rw [hA] at h0; simp at h0
 | some o =>
   simp only
   rw [addA_op] at hA
   refine ⟨g1,hus,opA_some (by omega) _ _ hus o hA,fun i x c hx hc k k1 k2=>?_⟩
   have:=opA_good (by omega) _ _ hus o hA i x c hx hc k k1 k2
   simp only [exceedsB_eq a3,decide_eq_false_iff_not] at this
   omega
theorem relN_okF {l:List Lnk} (hF:∀ x ∈ l,okF x) {t:Tun} (h0:(relN l t).2 = 0):(relN l t).1.length = l.length ∧ ∀ x ∈ (relN l t).1,okF x:=by
 obtain ⟨g1,hus,he,hg⟩:=relN_some h0
 obtain ⟨⟨a1,a2⟩,⟨a3,a4⟩,_⟩:=pathE_ok g1
 rw [he]
 refine ⟨chA_len _ _ _ _,fun x hx=>?_⟩
 obtain ⟨i,hi,hie⟩:=List.getElem_of_mem hx
 have hgt:(chA t.W.Band t.W.Hold.toNat (usesL l t.P) l)[i]? = some x:=by rw [List.getElem?_eq_getElem hi,hie]
 rw [chA_get,Option.map_eq_some_iff] at hgt
 obtain ⟨y,hy,rfl⟩:=hgt
 have hyF:=hF y (List.mem_of_getElem? hy)
 refine ⟨fun k hk=>?_,hyF.2⟩
 have hb:=hyF.1 k hk
 have hc:=hyF.2
 simp only [chR]
 split
 · rename_i hk2
   rcases Nat.eq_zero_or_pos (cntI i (usesL l t.P)) with e | e
   · rw [e]; simpa using hb
   · obtain ⟨c,hcc⟩:∃ c,cntI i (usesL l t.P) = c + 1:=⟨cntI i (usesL l t.P) - 1,by omega⟩
     have:=hg i y c hy (by omega) k hk2.1 hk2.2
     have h2:=Int.mul_nonneg a3 (Int.natCast_nonneg c)
     rw [hcc,Int.natCast_add,Int.mul_add]
     unfold inI at *
     simp only [Int.natCast_one,Int.mul_one]
     omega
 · exact hb
theorem suV_okF (vs:List Int):∀ (ts acc:List Tun) (l:List Lnk),(∀ x ∈ l,okF x) → (suV vs acc ts l).2.2 = 0 → (suV vs acc ts l).1.length = l.length ∧ ∀ x ∈ (suV vs acc ts l).1,okF x
 | [],acc,l,hF,_=>⟨rfl,hF⟩
 | x :: ts,acc,l,hF,h=>by
   simp only [suV] at h ⊢
   split at h
   · rename_i g1
     rw [if_pos g1]
     split at h
     · rename_i g2; exact absurd h g2
     · rename_i g2
       rw [if_neg g2]
       have k:=relN_okF hF (Decidable.not_not.1 g2)
       have:=suV_okF vs ts (acc ++ [noP x]) _ k.2 h
       exact ⟨by rw [this.1,k.1],this.2⟩
   · rename_i g1
     rw [if_neg g1]
     exact suV_okF vs ts _ _ hF h
theorem rowT_nil (N:Nat) (acc rest:List Tun) (x:Tun):LeCells N ((rowC ceT (acc ++ x :: rest)).set (acc.length * 12 + 11) (.sl 0 [] .full)) (rowC ceT (acc ++ noP x :: rest)):=by
 have hl:=eT.rowLen acc
 rw [rowC_app,rowC_cons,rowC_app,rowC_cons,List.set_append_right _ _ (by rw [hl]; omega),hl,show acc.length * 12 + 11 - acc.length * 12 = 11 by omega,List.set_append_left _ _ (show 11 < 12 by omega)]
 refine LeCells_app (eT.rowLe N acc) rfl (LeCells_app ?_ (by simp [ceT,noP]) (eT.rowLe N rest))
 simp [ceT,noP]
theorem lend57 {H:List (List AVal)} {id:Nat} {ts:List Tun} {n:Nat} (hid:H[id]? = some (rowC ceT ts)) (hn:ts.length = n) (h0:0 < n) (hn2:n < 1000000) (hasc:ts.Pairwise fun a b=>a.ID < b.ID) (hidr:∀ t ∈ ts,0 ≤ t.ID ∧ t.ID ≤ 9223372036854775807) (q:Int) (hq:0 ≤ q ∧ q ≤ 9223372036854775807) :
   CFun Tryz.prog 46 [.osl id 0 n none 12,.int .i64 q,.fn 47 [] []] H (.tup [.int .i64 (posT q ts),.bool (ts.any (isID q))]) H:=by
 have h:=t57 ts n hn hn2 hasc hidr q hq
 have hrl:=eT.rowLen ts
 have hne:rowC ceT ts ≠ []:=by
   intro e
   rw [e] at hrl
   simp at hrl
   omega
 have hch:=eT.chunk ts n hn
 have e:frzV id (rowC ceT ts) true false (.osl id 0 n none 12) = .sl 12 (ts.map encT) .sh:=by
   simp [frzV,frz1,hch,hrl,hn]
   exact fun _ _=>rfl
 exact CFun.lend (args:=[.osl id 0 n none 12,.int .i64 q,.fn 47 [] []]) (id:=id) (cs:=rowC ceT ts) (cs0:=rowC ceT ts) (ag:=true) (x:=.tup [.int .i64 (posT q ts),.bool (ts.any (isID q))]) (f:=46) (P:=Tryz.prog) (by simp only [List.map_cons,List.map_nil,e]; exact h) hid hne (fun _ _ h=>h) (Nat.le_refl _) (eT.rowTree ts) (by simp only [List.map_cons,List.map_nil,e]; rfl) rfl
end Go.Proofs.YtpmmnnaaoideeaaGreat

/- tunnel.Setup, by the program: behind its checks. -/
namespace Go.Proofs.YtpmmnnaaoideeaaGreat
open Go Go.Am Go.Wk
theorem posT_le (q:Int) (ts:List Tun):posT q ts ≤ ts.length:=by
 unfold posT
 exact (List.takeWhile_sublist _).length_le
theorem asc_of {ts os:List Tun} (h:os.map Tun.ID = ts.map Tun.ID) (ha:ts.Pairwise fun a b=>a.ID < b.ID):os.Pairwise fun a b=>a.ID < b.ID:=by
 have h1:(ts.map Tun.ID).Pairwise (· < ·):=List.pairwise_map.2 ha
 rw [← h] at h1
 exact List.pairwise_map.1 h1
theorem ids_of {ts os:List Tun} (h:os.map Tun.ID = ts.map Tun.ID) {p:Int → Prop} (ha:∀ t ∈ ts,p t.ID):∀ t ∈ os,p t.ID:=by
 intro t ht
 have:t.ID ∈ ts.map Tun.ID:=by rw [← h]; exact List.mem_map_of_mem ht
 obtain ⟨u,hu,e⟩:=List.mem_map.1 this
 rw [← e]; exact ha u hu
set_option maxHeartbeats 16000000 in
set_option maxRecDepth 10000 in
theorem t24 (n:Int) (l:List Lnk) (k:Nat) (hk:l.length = k) (hk2:k < 1000) (hF:∀ x ∈ l,okF x) (ts:List Tun) (r:Nat) (hr:ts.length = r) (hr2:r ≤ 100) (hts:∀ t ∈ ts,(okTn t ∧ t.P.length ≤ 30) ∧ smT t ∧ inI t.ID) (w:Tun) (oa:w.W.Avoid.length < 9223372036854775807) (oh:w.W.Thru.length < 9223372036854775807) (hwI:inI w.ID)
   (hv1:chkT n l ts = 0 → wantE n ts w = 0 → (routeN n l w.From w.To w.W).2.2 = 0 → (∀ x ∈ l,∀ k,k < 8 → -1125899906842624 ≤ x.Fr k ∧ x.Fr k ≤ 1125899906842624) ∧ (∀ t ∈ ts,t.P.length ≤ 30 ∧ t.W.Band ≤ 1099511627776 ∧ inI t.W.Hold) ∧ (routeN n l w.From w.To w.W).1.length ≤ 1000 ∧ ts.Pairwise (fun a b=>a.ID < b.ID) ∧ (∀ t ∈ ts,1 ≤ t.ID) ∧ 1 ≤ w.ID ∧ smT (wP w (routeN n l w.From w.To w.W).1))
   (hv2:chkT n l ts = 0 → checkE n l con0 = 0) (hv3:(vicN l ts (routeN n l w.From w.To w.W).1 w.W).1.length ≤ 1000) :
   CFun Tryz.prog 14 [.int .i64 n,.sl 13 (l.map encL) .sh,.sl 12 (ts.map encT) .sh,encT w] [] (encSu (suN n l ts w)) []:=by
 refine CFun.intro (tr:=[]) (fz:=[(9,1,true),(9,2,true)]) (n:=122) (rs:=[.tmp 8,.tmp 9,.tmp 10,.tmp 11]) Tryz.func14 rfl (by kernel_rfl) rfl rfl mixed (by kernel_rfl) (by simp) (by simp) ?_
 have h10:=fun H=>(t10 n l k hk hk2 ts r hr (by omega) fun t ht=>(hts t ht).1).up' H (by simp [noid,noid0]) rfl
 have h34:=fun H=>(t34d l (by omega)).up' H rfl rfl
 by_cases g1:chkT n l ts = 0
 case neg =>
   have e:suN n l ts w = ([],[],[],chkT n l ts):=by unfold suN; rw [if_pos g1]
   rw [e]
   generalize chkT n l ts = q at *
   simp
   refine ⟨_,_,.inl (by simpa using h10 _),by simp,?_⟩
   simp [g1]
 have h55:=fun H=>(t55 n l (hv2 g1) ts r hr (by omega) w oa oh).up' H (by simp [noid,noid0]) rfl
 by_cases g2:wantE n ts w = 0
 case neg =>
   have e:suN n l ts w = ([],[],[],wantE n ts w):=by unfold suN; rw [if_neg (by simpa using g1),if_pos g2]
   rw [e]
   rw [g1] at h10
   generalize wantE n ts w = q at *
   simp
   refine ⟨_,_,.inl (by simpa using h10 _),by simp,?_⟩
   simp
   refine ⟨_,_,.inl (by simpa using h55 _),by simp,?_⟩
   simp [g2]
 have h56:=fun H=>(c15 l k hk (by omega) w.W _ _ rfl rfl oa oh n w.From w.To).up' H (by simp [noid,noid0]) rfl
 rw [g1] at h10
 rw [g2] at h55
 by_cases g3:(routeN n l w.From w.To w.W).2.2 = 0
 case neg =>
   have e:suN n l ts w = ([],[],[],(routeN n l w.From w.To w.W).2.2):=by unfold suN; rw [if_neg (by simpa using g1),if_neg (by simpa using g2),if_pos g3]
   rw [e]
   generalize routeN n l w.From w.To w.W = q at *
   simp
   refine ⟨_,_,.inl (by simpa using h10 _),by simp,?_⟩
   simp
   refine ⟨_,_,.inl (by simpa using h55 _),by simp,?_⟩
   simp
   refine ⟨_,_,.inl (by simpa using h56 _),by simp,?_⟩
   simp [g3]
 obtain ⟨v1,v2,v3,v4,v5,v6,v7⟩:=hv1 g1 g2 g3
 have es:suN n l ts w = if (vicN l ts (routeN n l w.From w.To w.W).1 w.W).2 ≠ 0 then ([],[],[],(vicN l ts (routeN n l w.From w.To w.W).1 w.W).2) else su2 l ts w (routeN n l w.From w.To w.W).1 (vicN l ts (routeN n l w.From w.To w.W).1 w.W).1:=by
   unfold suN
   rw [if_neg (by simpa using g1),if_neg (by simpa using g2),if_neg (by simpa using g3)]
 have h18:=fun H=>(t18 l k hk hk2 v1 ts r hr hr2 v2 (routeN n l w.From w.To w.W).1 _ rfl v3 w.W).up' H (by simp [noid,noid0]) (by simp [noid,noid0])
 rw [es]
 clear es hv1 hv2
 generalize hR:routeN n l w.From w.To w.W = R at *
 obtain ⟨p,d,e⟩:=R
 simp only at g3 h18 v3 v7 hv3 ⊢
 subst g3
 by_cases g4:(vicN l ts p w.W).2 = 0
 case neg =>
   rw [if_pos g4]
   generalize vicN l ts p w.W = q at *
   simp
   refine ⟨_,_,.inl (by simpa using h10 _),by simp,?_⟩
   simp
   refine ⟨_,_,.inl (by simpa using h55 _),by simp,?_⟩
   simp
   refine ⟨_,_,.inl (by simpa using h56 _),by simp,?_⟩
   simp
   refine ⟨_,_,.inl (by simpa using h18 _),by simp,?_⟩
   simp [g4]
 rw [if_neg (by simpa using g4)]
 generalize hV:vicN l ts p w.W = V at *
 obtain ⟨vs,e⟩:=V
 simp only at g4 hv3 ⊢
 subst g4
 have h54w:=fun H=>((t54d [wP w p] 1 rfl (by omega) (by simpa using v7)).up' H rfl rfl).wk [.sl 12 [encT (wP w p)] .full] (by simp) (by simp)
 have hsu:=suV_okF vs ts [] l hF
 have hsi:=suV_len vs ts [] l
 unfold su2
 simp
 refine ⟨_,_,.inl (by simpa using h10 _),by simp,?_⟩
 simp
 refine ⟨_,_,.inl (by simpa using h55 _),by simp,?_⟩
 simp
 refine ⟨_,_,.inl (by simpa using h56 _),by simp,?_⟩
 simp
 refine ⟨_,_,.inl (by simpa using h18 _),by simp,?_⟩
 simp
 refine ⟨_,_,.inl (by simpa using h34 _),by simp,?_⟩
 obtain ⟨T,hT⟩:∃ T,T = suV vs [] ts l:=⟨_,rfl⟩
 rw [← hT] at hsu hsi ⊢
 have h13:=fun (ls:List Lnk) (hl:ls.length = k) (hlF:∀ x ∈ ls,okF x) H=>(t13 ls k hl (by omega) hlF (wP w p) _ rfl (by simp only [wP]; omega)).up' H (by simp [noid,noid0]) (by simp [noid,noid0])
 have h42:=fun x H=>(c24 vs _ rfl (by omega) x).up' H rfl rfl
 rcases Nat.eq_zero_or_pos r with hr0 | hr0
 · have ht0:ts = []:=List.length_eq_zero_iff.1 (by omega)
   subst ht0
   subst hr0
   have hT0:T = (l,[],0):=hT
   subst hT0
   simp
   refine ⟨_,_,.inl (by simpa using t54n.up' [cellsT w] rfl rfl),by simp,?_⟩
   simp
   refine LoopK.intro (tr:=[]) mixed (by kernel_rfl) (fun _:Nat=>[(7,.ptr 0 0),(14,.sl 1 (p.map encI) .sh),(17,.sl 1 (vs.map encI) .sh),(18,.sl 13 (l.map encL) .sh),(19,.sl 12 [] .full),(70,.sl 12 [] .sh),(71,.int .i64 0),(72,.int .i64 0)]) (fun _=>[cellsT w]) (fun _=>True) (fun i=>i) 0 trivial (by simp) ?_
   intro _ _
   have k13:=h13 l hk hF
   generalize hq:resN l (wP w p) = q at *
   have k57:=fun H=>((t57 [] 0 rfl (by omega) List.Pairwise.nil (by simp) w.ID ⟨by omega,by unfold inI at hwI; omega⟩).up' H rfl rfl).wk [.sl 12 [] .full,.int .i64 w.ID,.fn 47 [] []] (by simp) (by simp)
   have hp0:posT w.ID [] = 0:=rfl
   rw [hp0] at k57
   have k59:CFun Tryz.prog 48 [.sl 12 [] .full,.int .i64 0,.sl 12 [.agg (ceT (wP w p))] .sh] [cellsT (wP w p)] (.osl 1 0 1 none 12) [cellsT (wP w p),rowC ceT [wP w p]]:=(it_ins0 (wP w p)).upNew [cellsT (wP w p)] (eT.rowNoid _) (by simp [noid,noid0]) rfl
   have hch:=eT.chunk [wP w p] 1 rfl
   have hrt:=eT.rowTree [wP w p]
   have hrl:=eT.rowLen [wP w p]
   simp
   refine ⟨_,_,.inl (by simpa [wP] using k13 _),by simp,?_⟩
   by_cases g5:q.2 = 0
   · simp [g5]
     refine ⟨_,_,.inl (by simpa using k57 _),by simp,?_⟩
     simp
     refine ⟨_,_,.inl (by simpa [wP] using h54w _),by simp,?_⟩
     simp
     refine ⟨_,_,.inl (by simpa [wP,ceT] using k59),by simp,?_⟩
     simp [rowC_one,ceT,insL,wP]
     simpa [rowC_one,ceT,wP] using hch
   · simp [g5]
 · have h54:CFun Tryz.prog 43 [.sl 12 (ts.map encT) .sh] [cellsT w] (.osl 1 0 r none 12) [cellsT w,rowC ceT ts]:=(t54r ts r hr hr0 (by omega) fun t ht=>(hts t ht).2.1).upNew [cellsT w] (eT.rowNoid ts) (by simp [noid,noid0]) rfl
   simp
   refine ⟨_,_,.inl (by simpa using h54),by simp,?_⟩
   simp
   refine LoopK.intro (tr:=[]) mixed (by kernel_rfl) (fun s:Nat × List Lnk × List Tun=>[(7,.ptr 0 0),(14,.sl 1 (p.map encI) .sh),(17,.sl 1 (vs.map encI) .sh),(18,.sl 13 (s.2.1.map encL) .sh),(19,.osl 1 0 r none 12),(70,.osl 1 0 r none 12),(71,.int .i64 r),(72,.int .i64 s.1)]) (fun s=>[cellsT w,rowC ceT (s.2.2 ++ ts.drop s.1)])
     (fun s=>s.1 ≤ r ∧ s.2.2.length = s.1 ∧ s.2.1.length = k ∧ (∀ x ∈ s.2.1,okF x) ∧ T = suV vs s.2.2 (ts.drop s.1) s.2.1) (fun s=>r - s.1) (0,l,[]) ?_ ?_ ?_
   · exact ⟨Nat.zero_le _,rfl,hk,hF,hT⟩
   · have hle:=eT.rowLe 2 ts
     simp [hle]
   rintro ⟨i,ls,acc⟩ ⟨i1,i2,i3,i4,i5⟩
   simp only at i1 i2 i3 i4 i5 ⊢
   have hle:=fun N z=>eT.rowLe N z
   by_cases hi:i < r
   · obtain ⟨x,hx,hd⟩:=get_drop (l:=ts) (i:=i) (by omega)
     rw [hd] at i5 ⊢
     have hxm:=List.mem_of_getElem? hx
     have hxa:(acc ++ x :: ts.drop (i + 1))[i]? = some x:=by rw [List.getElem?_append_right (by omega),i2,Nat.sub_self]; rfl
     have hload:=eT.load0 hxa
     have k15:=fun H=>(t15 ls k i3 (by omega) i4 x _ rfl (by have:=(hts x hxm).1.2; omega)).up' H (by simp [noid,noid0]) (by simp [noid,noid0])
     have k42:=h42 x.ID
     have w1:IntKind.i64.wrap ((i:Int) + 1) = i + 1:=wrap_in (by omega)
     have hil:i * 12 + 11 < (rowC ceT (acc ++ x :: ts.drop (i + 1))).length:=by rw [eT.rowLen]; simp; omega
     have hil2:i * 12 + 11 + 1 ≤ (rowC ceT (acc ++ x :: ts.drop (i + 1))).length:=hil
     have hnil:=fun N=>rowT_nil N acc (ts.drop (i + 1)) x
     rw [i2] at hnil
     simp only [suV] at i5
     simp [hi,hload,-aload,ceT]
     refine ⟨_,_,.inl (by simpa [cargs] using k42 _),by simp,?_⟩
     by_cases g5:hasB vs x.ID = true
     · rw [if_pos g5] at i5
       generalize hq:relN ls x = q at *
       simp [g5]
       refine ⟨_,_,.inl (by simpa using k15 _),by simp,?_⟩
       by_cases g6:q.2 = 0
       · rw [if_neg (by simpa using g6)] at i5
         have hrk:=relN_okF i4 (t:=x) (by rw [hq]; exact g6)
         rw [hq] at hrk
         simp [g6,hi,hil2,w1]
         refine ⟨i + 1,q.1,acc ++ [noP x],⟨by omega,by simp [i2],by rw [hrk.1,i3],hrk.2,i5⟩,by omega,?_⟩
         simp
         exact hnil 2
       · rw [if_pos g6] at i5
         subst i5
         simp [g6]
     · rw [if_neg g5] at i5
       have g5':hasB vs x.ID = false:=by simpa using g5
       simp [g5',w1]
       refine ⟨i + 1,ls,acc ++ [x],⟨by omega,by simp [i2],i3,i4,i5⟩,by omega,?_⟩
       simp
       exact hle 2 _
   · have:i = r:=by omega
     subst this
     rw [List.drop_eq_nil_of_le (by omega)] at i5 ⊢
     rw [List.append_nil]
     simp only [suV] at i5
     subst i5
     have k13:=h13 ls i3 i4
     generalize hq:resN ls (wP w p) = q at *
     have hid:=hsi rfl
     rw [List.map_nil,List.nil_append] at hid
     have k57:=lend57 (H:=[cellsT (wP w p),rowC ceT acc]) (id:=1) (ts:=acc) (n:=i) rfl i2 hr0 (by omega) (asc_of hid v4) (ids_of hid (p:=fun a=>0 ≤ a ∧ a ≤ 9223372036854775807) fun t ht=>by
       have h1:=v5 t ht
       have h2:=(hts t ht).2.2
       unfold inI at h2
       omega) w.ID ⟨by omega,by unfold inI at hwI; omega⟩
     have hpl:posT w.ID acc ≤ i:=by have:=posT_le w.ID acc; omega
     have k59:CFun Tryz.prog 48 [.osl 1 0 i none 12,.int .i64 (posT w.ID acc),.sl 12 [.agg (ceT (wP w p))] .sh] [cellsT (wP w p),rowC ceT acc] (.osl 2 0 (i + 1) none 12) [cellsT (wP w p),[],rowC ceT (insL acc (posT w.ID acc) (wP w p))] :=
       (it_insR acc (posT w.ID acc) i i2 (by omega) hpl hr0 (wP w p)).atNew (H:=[cellsT (wP w p),rowC ceT acc]) (id:=1) rfl (eT.rowNoid _) rfl (eT.rowNoid _) (by simp [low]) rfl
     have hil:(insL acc (posT w.ID acc) (wP w p)).length = i + 1:=by rw [insL_len (by omega),i2]
     have hch:=eT.chunk _ (i + 1) hil
     have hrt:=eT.rowTree (insL acc (posT w.ID acc) (wP w p))
     have hrl:=eT.rowLen (insL acc (posT w.ID acc) (wP w p))
     rw [hil] at hrl
     generalize insL acc (posT w.ID acc) (wP w p) = z at *
     simp
     refine ⟨_,_,.inl (by simpa [wP] using k13 _),by simp,?_⟩
     by_cases g5:q.2 = 0
     · simp [g5]
       refine ⟨_,_,.inl (by simpa [wP] using k57),by simp,?_⟩
       simp
       refine ⟨_,_,.inl (by simpa [wP] using h54w _),by simp,?_⟩
       simp
       refine ⟨_,_,.inl (by simpa [wP,ceT] using k59),by simp,?_⟩
       have htk:(rowC ceT z).take ((i + 1) * 12) = rowC ceT z:=List.take_of_length_le (by omega)
       have hpos:0 < (rowC ceT z).length:=by omega
       simp [hrl,hrt,htk,hch,hpos,-List.all_eq_true]
       exact fun _ _=>rfl
     · simp [g5]
end Go.Proofs.YtpmmnnaaoideeaaGreat
