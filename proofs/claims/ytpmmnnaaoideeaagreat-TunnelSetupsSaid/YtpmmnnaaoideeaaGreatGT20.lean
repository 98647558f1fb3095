/- The law of giving back, by the program. -/
import Derived.Test.YtpmmnnaaoideeaaGreatGT16
set_option linter.unusedSimpArgs false
set_option linter.unusedVariables false
namespace Go.Proofs.YtpmmnnaaoideeaaGreat
open Go Go.Am Go.Wk
end Go.Proofs.YtpmmnnaaoideeaaGreat

/- Check of tunnels, by the program. -/
namespace Go.Proofs.YtpmmnnaaoideeaaGreat
open Go Go.Am Go.Wk
def prevB (p:Option Int) (x:Int):Bool:=match p with | some q=>decide (x ≤ q) | none=>false
def tunsE (n:Int) (l:List Lnk):Option Int → List Tun → Int
 | _,[]=>0
 | p,t :: ts=>if t.ID < 1 then 5 else if prevB p t.ID = true then 16
   else if tunE n l t ≠ 0 then tunE n l t else tunsE n l (some t.ID) ts
noncomputable def chkT (n:Int) (l:List Lnk) (ts:List Tun):Int :=
 if checkE n l con0 ≠ 0 then checkE n l con0 else if 2000 < ts.length then 4 else if tunsE n l none ts ≠ 0 then tunsE n l none ts else if agreeB l ts = true then 0 else 14
theorem tunsE_all {n:Int} {l:List Lnk}:∀ {ts:List Tun} {p:Option Int},tunsE n l p ts = 0 → ∀ t ∈ ts,tunE n l t = 0:=by
 intro ts
 induction ts with
 | nil=>intro p _ t ht; simp at ht
 | cons x ts ih =>
   intro p h t ht
   simp only [tunsE] at h
   split at h
   · cases h
   split at h
   · cases h
   split at h
   · rename_i g; exact absurd h g
   · rename_i g
     rcases List.mem_cons.1 ht with rfl | ht
     · exact Decidable.not_not.1 g
     · exact ih h t ht
theorem tunE_ok {n:Int} {l:List Lnk} {t:Tun} (h:tunE n l t = 0) (hp:t.P.length ≤ 30):okA l t:=by
 unfold tunE at h
 by_cases g1:conE n t.W = 0
 case neg=>rw [if_pos g1] at h; exact absurd h g1
 rw [if_neg (by simpa using g1)] at h
 by_cases g2:endsE n t = 0
 case neg=>rw [if_pos g2] at h; exact absurd h g2
 rw [if_neg (by simpa using g2)] at h
 have g3:pathB l t = false:=by
   cases hb:pathB l t with
   | false=>rfl
   | true=>rw [hb] at h; simp at h
 unfold conE at g1
 by_cases q1:t.W.Band < 0 ∨ 1099511627776 < t.W.Band ∨ t.W.Setup < 0 ∨ 7 < t.W.Setup ∨ t.W.Hold < 0 ∨ 7 < t.W.Hold ∨ t.W.Hops < 0
 · rw [if_pos q1] at g1; cases g1
 refine ⟨by omega,by omega,by omega,by omega,fun u hu=>?_,hp⟩
 have h1:=usesL_range l t.P u hu
 unfold pathB at g3
 by_cases q2:t.P.length = 0
 · have:t.P = []:=List.length_eq_zero_iff.1 q2
   rw [this] at hu
   simp [usesL] at hu
 rw [if_neg q2] at g3
 simp only [Bool.or_eq_false_iff] at g3
 have h2:¬ hasB (usesL l t.P) (-1) = true:=by rw [g3.2]; simp
 rw [hasB_iff] at h2
 have:u ≠ -1:=fun e=>h2 (e ▸ hu)
 omega
theorem linkE_cap {n:Int} {x:Lnk} (h:linkE n x = 0):0 ≤ x.Cap ∧ x.Cap ≤ 1099511627776:=by
 unfold linkE at h
 by_cases g1:x.From < 0 ∨ n ≤ x.From ∨ x.To < 0 ∨ n ≤ x.To
 · rw [if_pos g1] at h; cases h
 rw [if_neg g1] at h
 by_cases g2:x.From = x.To
 · rw [if_pos g2] at h; cases h
 rw [if_neg g2] at h
 by_cases g3:x.Cost < 1 ∨ 65535 < x.Cost ∨ x.Cap < 0 ∨ 1099511627776 < x.Cap
 · rw [if_pos g3] at h; cases h
 omega
theorem check_cap {n:Int} {l:List Lnk} {c:Con} (h:checkE n l c = 0):∀ x ∈ l,0 ≤ x.Cap ∧ x.Cap ≤ 1099511627776:=by
 obtain ⟨n1,n2,l2,lk,cn⟩:=check_links h
 obtain ⟨asc,_,lko⟩:=links_asc lk
 exact fun x hx=>linkE_cap (lko x hx)
def prevT (ts:List Tun):Nat → Option Int
 | 0=>none
 | i + 1=>ts[i]?.map Tun.ID
set_option maxHeartbeats 16000000 in
set_option maxRecDepth 10000 in
theorem t10 (n:Int) (l:List Lnk) (k:Nat) (hk:l.length = k) (hk2:k < 1000) (ts:List Tun) (r:Nat) (hr:ts.length = r) (hr2:r < 1000) (hts:∀ t ∈ ts,okTn t ∧ t.P.length ≤ 30) :
   CFun Tryz.prog 40 [.int .i64 n,.sl 13 (l.map encL) .sh,.sl 12 (ts.map encT) .sh] [] (.int .i64 (chkT n l ts)) []:=by
 refine CFun.intro (tr:=[]) (fz:=[]) (n:=56) (rs:=[.tmp 6]) Tryz.func40 rfl (by kernel_rfl) rfl rfl mixed (by kernel_rfl) (by simp) (by simp) ?_
 have h26:=fun H=>((c12 l k hk (by omega) con0 n 0 0 rfl rfl (by decide) (by decide)).up' H (by simp [noid,noid0,con0]) rfl).wk [.int .i64 n,.sl 13 (l.map encL) .sh,.agg [.int .i64 0,.int .i64 0,.int .i64 0,.int .u32 0,.int .u32 0,.int .i64 0,.sl 0 [] .full,.sl 0 [] .full]] (by simp [noid,noid0]) ⟨LeS_refl _,LeS_refl _,by simp [con0,LeS,LeC],trivial⟩
 unfold chkT
 by_cases g1:checkE n l con0 = 0
 case neg =>
   rw [if_pos g1]
   have g1':¬ checkE n l con0 = 0:=g1
   generalize checkE n l con0 = e at *
   simp
   refine ⟨_,_,.inl (by simpa using h26 _),by simp,?_⟩
   simp [g1']
 rw [if_neg (by simpa using g1),if_neg (by omega)]
 rw [g1] at h26
 have hC:=check_cap g1
 have hag:=fun (hall:∀ t ∈ ts,tunE n l t = 0) H=>(t28 l k hk hk2 hC ts r hr hr2 (fun t ht=>tunE_ok (hall t ht) (hts t ht).2)).up' H rfl rfl
 have h27:=fun t (ht:t ∈ ts) H=>(t27 n l k hk (by omega) g1 t (hts t ht).1).up' H (by simp [noid,noid0]) rfl
 obtain ⟨T,hT⟩:∃ T,T = tunsE n l none ts:=⟨_,rfl⟩
 have hall:T = 0 → ∀ t ∈ ts,tunE n l t = 0:=fun h=>tunsE_all (by rw [← hT]; exact h)
 rw [← hT]
 have hr':¬ (2000:Int) < r:=by omega
 have hr'':¬ 2000 < r:=by omega
 simp
 refine ⟨_,_,.inl (by simpa using h26 _),by simp,?_⟩
 simp [hr,hr',hr'']
 clear h26
 refine LoopK.intro (tr:=[]) mixed (by kernel_rfl) (fun i:Nat=>[(0,.int .i64 n),(1,.sl 13 (l.map encL) .sh),(2,.sl 12 (ts.map encT) .sh),(21,.sl 12 (ts.map encT) .sh),(22,.int .i64 r),(23,.int .i64 i)]) (fun _=>[])
   (fun i=>i ≤ r ∧ T = tunsE n l (prevT ts i) (ts.drop i)) (fun i=>r - i) 0 ?_ ?_ ?_
 · exact ⟨by omega,hT⟩
 · simp
 rintro i ⟨i1,i2⟩
 by_cases hi:i < r
 case neg =>
   rw [List.drop_eq_nil_of_le (by omega)] at i2
   simp only [tunsE] at i2
   have hg:=hag (hall i2)
   subst i2
   generalize agreeB l ts = b at *
   simp [hi]
   refine ⟨_,_,.inl (by simpa using hg _),by simp,?_⟩
   cases b <;> simp
 obtain ⟨t,ht,hd⟩:=get_drop (l:=ts) (i:=i) (by omega)
 rw [hd] at i2
 simp only [tunsE] at i2
 have hm:=List.mem_of_getElem? ht
 have w1:IntKind.i64.wrap ((i:Int) + 1) = i + 1:=wrap_in (by omega)
 have hp1:prevT ts (i + 1) = some t.ID:=by simp [prevT,ht]
 clear hT hall hag hd
 have k27:=h27 t hm
 clear h27
 generalize tunE n l t = e at *
 by_cases a1:t.ID < 1
 · rw [if_pos a1] at i2
   subst i2
   simp [hi,hr,ht,gE ht,a1]
 rw [if_neg a1] at i2
 cases i with
 | zero =>
   simp only [prevT,prevB,Bool.false_eq_true,if_false] at i2
   have w1:IntKind.i64.wrap 1 = 1:=wrap_in (by omega)
   simp [hi,hr,ht,gE ht,a1]
   refine ⟨_,_,.inl (by simpa using k27 _),by simp,?_⟩
   by_cases g2:e = 0
   case neg =>
     have i2:T = e:=by rw [i2,if_pos g2]
     subst i2
     simp [g2]
   subst g2
   simp only [ne_eq,not_true_eq_false,if_false] at i2
   simp [w1]
   exact ⟨1,⟨by omega,by rw [hp1]; exact i2⟩,by omega,by simp⟩
 | succ i =>
   obtain ⟨y,hy⟩:∃ y,ts[i]? = some y:=⟨_,List.getElem?_eq_getElem (by omega)⟩
   have hpy:prevT ts (i + 1) = some y.ID:=by simp [prevT,hy]
   simp only [hpy,prevB] at i2
   have b3':(0:Int) < (i:Int) + 1:=by omega
   have b5:i < r:=by omega
   have w2:IntKind.i64.wrap ((i:Int) + 1 - 1) = i:=by rw [Int.add_sub_cancel]; exact wrap_in (by omega)
   have w4:IntKind.i64.wrap (i:Int) = i:=wrap_in (by omega)
   have hn1:((i:Int) + 1).toNat = i + 1:=by omega
   have w1:IntKind.i64.wrap ((i:Int) + 1 + 1) = (i:Int) + 1 + 1:=wrap_in (by omega)
   have hi':(i:Int) + 1 < r:=by omega
   have hi0:(0:Int) ≤ (i:Int) + 1:=by omega
   by_cases a2:t.ID ≤ y.ID
   · rw [if_pos (by simpa using a2)] at i2
     subst i2
     simp [hi,hi',hi0,hr,ht,gE ht,hy,gE hy,a1,a2,b3',b5,w2,w4,hn1]
   rw [if_neg (by simpa using a2)] at i2
   simp [hi,hi',hi0,hr,ht,gE ht,hy,gE hy,a1,a2,b3',b5,w2,w4,hn1]
   refine ⟨_,_,.inl (by simpa using k27 _),by simp,?_⟩
   by_cases g2:e = 0
   case neg =>
     have i2:T = e:=by rw [i2,if_pos g2]
     subst i2
     simp [g2]
   subst g2
   simp only [ne_eq,not_true_eq_false,if_false] at i2
   simp [w1]
   exact ⟨i + 1 + 1,⟨by omega,by rw [hp1]; exact i2⟩,by omega,by simp⟩
end Go.Proofs.YtpmmnnaaoideeaaGreat

/- The reference's Check of tunnels, by the program. -/
namespace Go.Proofs.YtpmmnnaaoideeaaGreat
open Go Go.Am Go.Wk
set_option maxHeartbeats 16000000 in
set_option maxRecDepth 10000 in
theorem t11 (n:Int) (l:List Lnk) (k:Nat) (hk:l.length = k) (hk2:k < 1000) (ts:List Tun) (r:Nat) (hr:ts.length = r) (hr2:r < 1000) (hts:∀ t ∈ ts,okTn t ∧ t.P.length ≤ 30) :
   CFun Tryz.prog 6 [.int .i64 n,.sl 13 (l.map encL) .sh,.sl 12 (ts.map encT) .sh] [] (.int .i64 (chkT n l ts)) []:=by
 refine CFun.intro (tr:=[]) (fz:=[]) (n:=102) (rs:=[.tmp 6]) Tryz.func6 rfl (by kernel_rfl) rfl rfl mixed (by kernel_rfl) (by simp) (by simp) ?_
 have h26:=fun H=>((c13 l k hk (by omega) con0 n 0 0 rfl rfl (by decide) (by decide)).up' H (by simp [noid,noid0,con0]) rfl).wk [.int .i64 n,.sl 13 (l.map encL) .sh,.agg [.int .i64 0,.int .i64 0,.int .i64 0,.int .u32 0,.int .u32 0,.int .i64 0,.sl 0 [] .full,.sl 0 [] .full]] (by simp [noid,noid0]) ⟨LeS_refl _,LeS_refl _,by simp [con0,LeS,LeC],trivial⟩
 unfold chkT
 by_cases g1:checkE n l con0 = 0
 case neg =>
   rw [if_pos g1]
   have g1':¬ checkE n l con0 = 0:=g1
   generalize checkE n l con0 = e at *
   simp
   refine ⟨_,_,.inl (by simpa using h26 _),by simp,?_⟩
   simp [g1']
 rw [if_neg (by simpa using g1),if_neg (by omega)]
 rw [g1] at h26
 have hC:=check_cap g1
 have hag:=fun (hall:∀ t ∈ ts,tunE n l t = 0) H=>(t32 l k hk hk2 hC ts r hr hr2 (fun t ht=>tunE_ok (hall t ht) (hts t ht).2)).up' H rfl rfl
 have h21:=fun t (ht:t ∈ ts) H=>(c13 l k hk (by omega) t.W n _ _ rfl rfl (hts t ht).1.a (hts t ht).1.h).up' H (by simp [noid,noid0]) rfl
 have hcc:=fun t:Tun=>(checkE_con g1 t.W).1
 simp only [hcc] at h21
 have h29:=fun t H=>(t29 n t).up' H (by simp [noid,noid0]) rfl
 have h30:=fun t (ht:t ∈ ts) H=>(c35 t.P t.P.length rfl (by have:=(hts t ht).2; omega)).up' H rfl rfl
 have h31:=fun t (ht:t ∈ ts) H=>(t31 l k hk (by omega) t.P t.P.length rfl (by have:=(hts t ht).2; omega)).up' H rfl rfl
 obtain ⟨T,hT⟩:∃ T,T = tunsE n l none ts:=⟨_,rfl⟩
 have hall:T = 0 → ∀ t ∈ ts,tunE n l t = 0:=fun h=>tunsE_all (by rw [← hT]; exact h)
 rw [← hT]
 have hr':¬ (2000:Int) < r:=by omega
 have hr'':¬ 2000 < r:=by omega
 simp
 refine ⟨_,_,.inl (by simpa using h26 _),by simp,?_⟩
 simp [hr,hr',hr'']
 clear h26
 refine LoopK.intro (tr:=[]) mixed (by kernel_rfl) (fun i:Nat=>[(0,.int .i64 n),(1,.sl 13 (l.map encL) .sh),(2,.sl 12 (ts.map encT) .sh),(23,.sl 12 (ts.map encT) .sh),(24,.int .i64 r),(25,.int .i64 i)]) (fun _=>[])
   (fun i=>i ≤ r ∧ T = tunsE n l (prevT ts i) (ts.drop i)) (fun i=>r - i) 0 ?_ ?_ ?_
 · exact ⟨by omega,hT⟩
 · simp
 rintro i ⟨i1,i2⟩
 by_cases hi:i < r
 case neg =>
   rw [List.drop_eq_nil_of_le (by omega)] at i2
   simp only [tunsE] at i2
   have hg:=hag (hall i2)
   subst i2
   generalize agreeB l ts = b at *
   simp [hi]
   refine ⟨_,_,.inl (by simpa using hg _),by simp,?_⟩
   cases b <;> simp
 obtain ⟨t,ht,hd⟩:=get_drop (l:=ts) (i:=i) (by omega)
 rw [hd] at i2
 simp only [tunsE] at i2
 have hm:=List.mem_of_getElem? ht
 have w1:IntKind.i64.wrap ((i:Int) + 1) = i + 1:=wrap_in (by omega)
 have hp1:prevT ts (i + 1) = some t.ID:=by simp [prevT,ht]
 clear hT hall hag hd
 have k21:=h21 t hm
 have k29:=h29 t
 have k30:=h30 t hm
 have k31:=h31 t hm
 clear h21 h29 h30 h31
 obtain ⟨m,hmm⟩:∃ m,t.P.length = m:=⟨_,rfl⟩
 have hm30:m ≤ 30:=by have:=(hts t hm).2; omega
 unfold tunE pathB at i2
 rw [hmm] at i2
 generalize conE n t.W = e1 at *
 generalize endsE n t = e2 at *
 generalize hasB (usesL l t.P) (-1) = b4 at *
 generalize repB t.P = b3 at *
 by_cases a1:t.ID < 1
 · rw [if_pos a1] at i2
   subst i2
   simp [hi,hr,ht,gE ht,a1]
 rw [if_neg a1] at i2
 cases i with
 | zero =>
   simp only [prevT,prevB,Bool.false_eq_true,if_false] at i2
   have w1:IntKind.i64.wrap 1 = 1:=wrap_in (by omega)
   simp [hi,hr,ht,gE ht,a1]
   refine ⟨_,_,.inl (by simpa using k21 _),by simp,?_⟩
   by_cases g2:e1 = 0
   case neg =>
     have i2:T = e1:=by rw [i2,if_pos g2,if_pos g2]
     subst i2
     simp [g2]
   subst g2
   simp only [ne_eq,not_true_eq_false,if_false] at i2
   simp
   refine ⟨_,_,.inl (by simpa using k29 _),by simp,?_⟩
   by_cases g3:e2 = 0
   case neg =>
     have i2:T = e2:=by rw [i2,if_pos g3,if_pos g3]
     subst i2
     simp [g3]
   subst g3
   simp only [not_true_eq_false,if_false] at i2
   by_cases g4:m = 0
   · rw [if_pos g4] at i2
     simp only [Bool.false_eq_true,if_false] at i2
     simp [hmm,g4,w1]
     exact ⟨1,⟨by omega,by rw [hp1]; exact i2⟩,by omega,by simp⟩
   rw [if_neg g4] at i2
   obtain ⟨x,hx⟩:∃ x,t.P[0]? = some x:=⟨_,List.getElem?_eq_getElem (by omega)⟩
   obtain ⟨y2,hy2⟩:∃ y,t.P[m - 1]? = some y:=⟨_,List.getElem?_eq_getElem (by omega)⟩
   have e5:t.P.getD 0 0 = x:=by rw [List.getD_eq_getElem?_getD,hx]; rfl
   have e6:t.P.getD (m - 1) 0 = y2:=by rw [List.getD_eq_getElem?_getD,hy2]; rfl
   rw [e5,e6] at i2
   have hm1:0 < m:=by omega
   have hm2:m - 1 < m:=by omega
   have hm1':(0:Int) < m:=by omega
   have w5:IntKind.i64.wrap ((m:Int) - 1) = ((m - 1:Nat):Int):=by
     rw [show ((m - 1:Nat):Int) = (m:Int) - 1 by omega]; exact wrap_in (by omega)
   by_cases g5:x = t.From
   case neg =>
     have i2:T = 20:=by rw [i2]; simp [g5]
     subst i2
     simp [hmm,g4,hm1,hm1',hx,gE hx,g5]
   by_cases g6:y2 = t.To
   case neg =>
     have i2:T = 20:=by rw [i2]; simp [g6]
     subst i2
     simp [hmm,g4,hm1,hm1',hm2,w5,hx,gE hx,hy2,gE hy2,g5,g6]
   simp [hmm,g4,hm1,hm1',hm2,w5,hx,gE hx,hy2,gE hy2,g5,g6]
   refine ⟨_,_,.inl (by simpa [cargs] using k30 _),by simp [cargs],?_⟩
   cases b3 with
   | true =>
     have i2:T = 20:=by rw [i2]; simp
     subst i2
     simp
   | false =>
     simp [hmm,g4,hm1,hm1',hm2,w5,hx,gE hx,hy2,gE hy2,g5,g6]
     refine ⟨_,_,.inl (by simpa [cargs] using k31 _),by simp [cargs],?_⟩
     cases b4 with
     | true =>
       have i2:T = 20:=by rw [i2]; simp
       subst i2
       simp
     | false =>
       have i2:T = tunsE n l (some t.ID) (ts.drop (1)):=by rw [i2]; simp [g5,g6]
       simp [w1]
       exact ⟨1,⟨by omega,by rw [hp1]; exact i2⟩,by omega,by simp⟩
 | succ i =>
   obtain ⟨y,hy⟩:∃ y,ts[i]? = some y:=⟨_,List.getElem?_eq_getElem (by omega)⟩
   have hpy:prevT ts (i + 1) = some y.ID:=by simp [prevT,hy]
   simp only [hpy,prevB] at i2
   have b3':(0:Int) < (i:Int) + 1:=by omega
   have b5:i < r:=by omega
   have w2:IntKind.i64.wrap ((i:Int) + 1 - 1) = i:=by rw [Int.add_sub_cancel]; exact wrap_in (by omega)
   have w4:IntKind.i64.wrap (i:Int) = i:=wrap_in (by omega)
   have hn1:((i:Int) + 1).toNat = i + 1:=by omega
   have w1:IntKind.i64.wrap ((i:Int) + 1 + 1) = (i:Int) + 1 + 1:=wrap_in (by omega)
   have hi':(i:Int) + 1 < r:=by omega
   have hi0:(0:Int) ≤ (i:Int) + 1:=by omega
   by_cases a2:t.ID ≤ y.ID
   · rw [if_pos (by simpa using a2)] at i2
     subst i2
     simp [hi,hi',hi0,hr,ht,gE ht,hy,gE hy,a1,a2,b3',b5,w2,w4,hn1]
   rw [if_neg (by simpa using a2)] at i2
   simp [hi,hi',hi0,hr,ht,gE ht,hy,gE hy,a1,a2,b3',b5,w2,w4,hn1]
   refine ⟨_,_,.inl (by simpa using k21 _),by simp,?_⟩
   by_cases g2:e1 = 0
   case neg =>
     have i2:T = e1:=by rw [i2,if_pos g2,if_pos g2]
     subst i2
     simp [g2]
   subst g2
   simp only [ne_eq,not_true_eq_false,if_false] at i2
   simp
   refine ⟨_,_,.inl (by simpa using k29 _),by simp,?_⟩
   by_cases g3:e2 = 0
   case neg =>
     have i2:T = e2:=by rw [i2,if_pos g3,if_pos g3]
     subst i2
     simp [g3]
   subst g3
   simp only [not_true_eq_false,if_false] at i2
   by_cases g4:m = 0
   · rw [if_pos g4] at i2
     simp only [Bool.false_eq_true,if_false] at i2
     simp [hmm,g4,w1]
     exact ⟨i + 1 + 1,⟨by omega,by rw [hp1]; exact i2⟩,by omega,by simp⟩
   rw [if_neg g4] at i2
   obtain ⟨x,hx⟩:∃ x,t.P[0]? = some x:=⟨_,List.getElem?_eq_getElem (by omega)⟩
   obtain ⟨y2,hy2⟩:∃ y,t.P[m - 1]? = some y:=⟨_,List.getElem?_eq_getElem (by omega)⟩
   have e5:t.P.getD 0 0 = x:=by rw [List.getD_eq_getElem?_getD,hx]; rfl
   have e6:t.P.getD (m - 1) 0 = y2:=by rw [List.getD_eq_getElem?_getD,hy2]; rfl
   rw [e5,e6] at i2
   have hm1:0 < m:=by omega
   have hm2:m - 1 < m:=by omega
   have hm1':(0:Int) < m:=by omega
   have w5:IntKind.i64.wrap ((m:Int) - 1) = ((m - 1:Nat):Int):=by
     rw [show ((m - 1:Nat):Int) = (m:Int) - 1 by omega]; exact wrap_in (by omega)
   by_cases g5:x = t.From
   case neg =>
     have i2:T = 20:=by rw [i2]; simp [g5]
     subst i2
     simp [hmm,g4,hm1,hm1',hx,gE hx,g5]
   by_cases g6:y2 = t.To
   case neg =>
     have i2:T = 20:=by rw [i2]; simp [g6]
     subst i2
     simp [hmm,g4,hm1,hm1',hm2,w5,hx,gE hx,hy2,gE hy2,g5,g6]
   simp [hmm,g4,hm1,hm1',hm2,w5,hx,gE hx,hy2,gE hy2,g5,g6]
   refine ⟨_,_,.inl (by simpa [cargs] using k30 _),by simp [cargs],?_⟩
   cases b3 with
   | true =>
     have i2:T = 20:=by rw [i2]; simp
     subst i2
     simp
   | false =>
     simp [hmm,g4,hm1,hm1',hm2,w5,hx,gE hx,hy2,gE hy2,g5,g6]
     refine ⟨_,_,.inl (by simpa [cargs] using k31 _),by simp [cargs],?_⟩
     cases b4 with
     | true =>
       have i2:T = 20:=by rw [i2]; simp
       subst i2
       simp
     | false =>
       have i2:T = tunsE n l (some t.ID) (ts.drop (i + 1 + 1)):=by rw [i2]; simp [g5,g6]
       simp [w1]
       exact ⟨i + 1 + 1,⟨by omega,by rw [hp1]; exact i2⟩,by omega,by simp⟩
set_option maxHeartbeats 8000000 in
set_option maxRecDepth 10000 in
theorem t8L (n:Int) (l:List Lnk) (k:Nat) (hk:l.length = k) (ts:List Tun) (r:Nat) (hr:ts.length = r) (hr2:r < 9223372036854775807) :
   ∃ b,CFun Tryz.prog 5 [.int .i64 n,.sl 13 (l.map encL) .sh,.sl 12 (ts.map encT) .sh] [] (.bool b) [] ∧ (b = false → n ≤ 9 ∧ k ≤ 40 ∧ r ≤ 12 ∧ ∀ t ∈ ts,t.P.length ≤ 30 ∧ t.W.Thru.length ≤ 3):=by
 obtain ⟨b,hb⟩:∃ b:Bool,b = (decide (9 < n) || decide (40 < k) || decide (12 < r) || ts.any fun t=>decide (30 < t.P.length) || decide (3 < t.W.Thru.length)):=⟨_,rfl⟩
 refine ⟨b,?_,fun h=>?_⟩
 case refine_2 =>
   rw [h] at hb
   have hb:=hb.symm
   simp only [Bool.or_eq_false_iff,decide_eq_false_iff_not,List.any_eq_false,Bool.or_eq_true,decide_eq_true_eq,not_or] at hb
   obtain ⟨⟨⟨h1,h2⟩,h3⟩,h4⟩:=hb
   exact ⟨by omega,by omega,by omega,fun t ht=>by have:=h4 t ht; omega⟩
 refine CFun.intro (tr:=[]) (fz:=[]) (n:=39) (rs:=[.tmp 6]) Tryz.func5 rfl (by kernel_rfl) rfl rfl mixed (by kernel_rfl) (by simp) (by simp) ?_
 by_cases b1:9 < n
 · simp [b1] at hb
   subst hb
   simp [b1]
 by_cases b2:40 < k
 · have b2':(40:Int) < k:=by omega
   simp [b2] at hb
   subst hb
   simp [hk,b1,b2,b2']
 have b2':¬ (40:Int) < k:=by omega
 by_cases b3:12 < r
 · have b3':(12:Int) < r:=by omega
   simp [b3] at hb
   subst hb
   simp [hk,hr,b1,b2,b2',b3,b3']
 have b3':¬ (12:Int) < r:=by omega
 simp only [decide_eq_false b1,decide_eq_false b2,decide_eq_false b3,Bool.false_or] at hb
 simp [hk,hr,b1,b2,b2',b3,b3']
 refine LoopK.intro (tr:=[]) mixed (by kernel_rfl) (fun i:Nat=>[(21,.sl 12 (ts.map encT) .sh),(22,.int .i64 r),(23,.int .i64 i)]) (fun _=>[])
   (fun i=>i ≤ r ∧ b = (ts.drop i).any fun t=>decide (30 < t.P.length) || decide (3 < t.W.Thru.length)) (fun i=>r - i) 0 ?_ ?_ ?_
 · exact ⟨by omega,hb⟩
 · simp
 rintro i ⟨i1,i2⟩
 by_cases hi:i < r
 case neg =>
   rw [List.drop_eq_nil_of_le (by omega)] at i2
   simp at i2
   simp [hi,i2]
 obtain ⟨t,ht,hd⟩:=get_drop (l:=ts) (i:=i) (by omega)
 rw [hd,List.any_cons] at i2
 have w1:IntKind.i64.wrap ((i:Int) + 1) = i + 1:=wrap_in (by omega)
 clear hd hb
 by_cases c1:30 < t.P.length
 · have c1':(30:Int) < t.P.length:=by omega
   simp [c1] at i2
   subst i2
   simp [hi,hr,ht,gE ht,c1,c1']
 have c1':¬ (30:Int) < t.P.length:=by omega
 by_cases c2:3 < t.W.Thru.length
 · have c2':(3:Int) < t.W.Thru.length:=by omega
   simp [c2] at i2
   subst i2
   simp [hi,hr,ht,gE ht,c1,c1',c2,c2']
 have c2':¬ (3:Int) < t.W.Thru.length:=by omega
 simp only [decide_eq_false c1,decide_eq_false c2,Bool.false_or] at i2
 simp [hi,hr,ht,gE ht,c1,c1',c2,c2',w1]
 exact ⟨i + 1,⟨by omega,i2⟩,by omega,by simp⟩
end Go.Proofs.YtpmmnnaaoideeaaGreat

/- What is wanted: checks; which tunnel has a number. -/
namespace Go.Proofs.YtpmmnnaaoideeaaGreat
open Go Go.Am Go.Wk
def isID (id:Int) (t:Tun):Bool:=decide (t.ID = id)
set_option maxHeartbeats 4000000 in
set_option maxRecDepth 10000 in
theorem t74 (w x:Tun):CFun Tryz.prog 67 [encT x,.ptr 0 0] [cellsT w] (.bool (isID w.ID x)) [cellsT w]:=by
 refine CFun.intro (tr:=[]) (fz:=[]) (n:=9) (rs:=[.tmp 3]) Tryz.func67 rfl (by kernel_rfl) rfl rfl mixed (by kernel_rfl) (by simp) (by simp) ?_
 by_cases e:x.ID = w.ID <;> simp [isID,e]
set_option maxHeartbeats 4000000 in
set_option maxRecDepth 10000 in
theorem t52 (id:Int) (x:Tun):CFun Tryz.prog 53 [encT x,.ptr 0 0] [[.int .i64 id]] (.bool (isID id x)) [[.int .i64 id]]:=by
 refine CFun.intro (tr:=[]) (fz:=[]) (n:=8) (rs:=[.tmp 3]) Tryz.func53 rfl (by kernel_rfl) rfl rfl mixed (by kernel_rfl) (by simp) (by simp) ?_
 by_cases e:x.ID = id <;> simp [isID,e]
set_option maxHeartbeats 4000000 in
set_option maxRecDepth 10000 in
theorem t51 (ts:List Tun) (n:Nat) (hn:ts.length = n) (hn2:n < 1000000) (g:FuncId) (cs:List AVal) (id:Int) (hl:LeCells 1 cs cs) (h:∀ x:Tun,CFun Tryz.prog g [encT x,.ptr 0 0] [cs] (.bool (isID id x)) [cs]) :
   CFun Tryz.prog 52 [.sl 12 (ts.map encT) .sh,.fn g [] [.ptr 0 0]] [cs] (.int .i64 (idxL (isID id) ts 0)) [cs]:=by
 refine CFun.intro (tr:=[]) (fz:=[]) (n:=19) (rs:=[.tmp 4]) Tryz.func52 rfl (by kernel_rfl) rfl rfl mixed (by kernel_rfl) (by simp) (by simp) ?_
 simp
 refine LoopK.intro (tr:=[]) mixed (by kernel_rfl) (fun j:Nat=>[(0,.sl 12 (ts.map encT) .sh),(1,.fn g [] [.ptr 0 0]),(7,.int .i64 n),(8,.int .i64 j)]) (fun _=>[cs]) (fun j=>j ≤ n ∧ idxL (isID id) ts 0 = idxL (isID id) (ts.drop j) j) (fun j=>n - j) 0 ?_ ?_ ?_
 · simp
 · simp [hn,hl]
 · rintro j ⟨h1,h2⟩
   by_cases hj:j < n
   · obtain ⟨y,hy,hd⟩:=get_drop (l:=ts) (i:=j) (by omega)
     rw [hd] at h2
     simp only [idxL] at h2
     have w1:IntKind.i64.wrap ((j:Int) + 1) = j + 1:=wrap_in (by omega)
     clear hd
     have hyc:=h y
     generalize isID id y = b at hyc h2
     simp [hj,hn,hy,gE hy]
     refine ⟨_,_,.inl (by simpa using hyc),by simp,?_⟩
     cases b with
     | true=>simp at h2; simp [h2,hl]
     | false =>
       simp at h2
       simp [w1]
       exact ⟨j + 1,⟨by omega,h2⟩,by omega,by simp [hl]⟩
   · have:j = n:=by omega
     subst this
     rw [List.drop_eq_nil_of_le (by omega)] at h2
     simp [hn,h2,idxL,hl]
set_option maxHeartbeats 4000000 in
set_option maxRecDepth 10000 in
theorem t73 (ts:List Tun) (n:Nat) (hn:ts.length = n) (hn2:n < 1000000) (w:Tun) :
   CFun Tryz.prog 66 [.sl 12 (ts.map encT) .sh,.fn 67 [] [.ptr 0 0]] [cellsT w] (.bool (ts.any (isID w.ID))) [cellsT w]:=by
 refine CFun.intro (tr:=[]) (fz:=[]) (n:=9) (rs:=[.tmp 4]) Tryz.func66 rfl (by kernel_rfl) rfl rfl mixed (by kernel_rfl) (by simp) (by simp) ?_
 have h:=t51 ts n hn hn2 67 (cellsT w) w.ID (by simp) (t74 w)
 rw [show ts.any (isID w.ID) = decide (0 ≤ idxL (isID w.ID) ts 0) from idxL_any _ _ _]
 generalize idxL (isID w.ID) ts 0 = q at h
 simp
 refine ⟨_,_,.inl (by simpa using h),by simp,?_⟩
 simp
def wantE (n:Int) (ts:List Tun) (w:Tun):Int:=if w.ID < 1 then 5 else if ts.any (isID w.ID) = true then 7 else if conE n w.W ≠ 0 then conE n w.W else endsE n w
set_option maxHeartbeats 8000000 in
set_option maxRecDepth 10000 in
theorem t55 (n:Int) (l:List Lnk) (hc:checkE n l con0 = 0) (ts:List Tun) (r:Nat) (hr:ts.length = r) (hr2:r < 1000000) (w:Tun) (oa:w.W.Avoid.length < 9223372036854775807) (oh:w.W.Thru.length < 9223372036854775807) :
   CFun Tryz.prog 41 [.int .i64 n,.sl 12 (ts.map encT) .sh,encT w] [] (.int .i64 (wantE n ts w)) []:=by
 refine CFun.intro (tr:=[]) (fz:=[]) (n:=24) (rs:=[.tmp 6]) Tryz.func41 rfl (by kernel_rfl) rfl rfl mixed (by kernel_rfl) (by simp) (by simp) ?_
 have h26:=fun H=>((c12 [] 0 rfl (by decide) w.W n _ _ rfl rfl oa oh).up' H (by simp [noid,noid0]) rfl).wk [.int .i64 n,.sl 0 [] .full,encC w.W] (by simp [noid,noid0]) ⟨LeS_refl _,by simp [LeS],LeS_refl _,trivial⟩
 rw [(checkE_con hc w.W).2] at h26
 have h63:=fun H=>(t63 n w).up' H (by simp [noid,noid0]) rfl
 have h73:=t73 ts r hr hr2 w
 unfold wantE
 by_cases g0:w.ID < 1
 · simp [g0]
 generalize ts.any (isID w.ID) = b at *
 generalize conE n w.W = e1 at *
 generalize endsE n w = e2 at *
 simp [g0]
 refine ⟨_,_,.inl (by simpa using h73),by simp,?_⟩
 cases b with
 | true=>simp
 | false =>
   simp
   refine ⟨_,_,.inl (by simpa using h26 _),by simp,?_⟩
   by_cases g1:e1 = 0
   · subst g1
     simp
     refine ⟨_,_,.inl (by simpa using h63 _),by simp,?_⟩
     simp
   · simp [g1]
def posT (id:Int) (ts:List Tun):Nat:=(ts.takeWhile fun t=>decide (t.ID < id)).length
set_option maxHeartbeats 4000000 in
set_option maxRecDepth 10000 in
theorem t58 (x:Tun) (id:Int) (h1:0 ≤ x.ID ∧ x.ID ≤ 9223372036854775807) (h2:0 ≤ id ∧ id ≤ 9223372036854775807):CFun Tryz.prog 47 [encT x,.int .i64 id] [] (.int .i64 (x.ID - id)) []:=by
 refine CFun.intro (tr:=[]) (fz:=[]) (n:=9) (rs:=[.tmp 4]) Tryz.func47 rfl (by kernel_rfl) rfl rfl mixed (by kernel_rfl) (by simp) (by simp) ?_
 have w1:IntKind.i64.wrap (x.ID - id) = x.ID - id:=wrap_in (by omega)
 simp [w1]
end Go.Proofs.YtpmmnnaaoideeaaGreat

/- Where a number stands in an ascending list of tunnels. -/
namespace Go.Proofs.YtpmmnnaaoideeaaGreat
open Go Go.Am Go.Wk
theorem posT_of {id:Int} {ts:List Tun} {i:Nat} (h1:∀ (j:Nat) (t:Tun),j < i → ts[j]? = some t → t.ID < id) (hi:i ≤ ts.length) (h2:∀ t,ts[i]? = some t → ¬ t.ID < id):posT id ts = i:=by
 unfold posT
 induction ts generalizing i with
 | nil=>simp at hi; simp [hi]
 | cons x ts ih =>
   cases i with
   | zero =>
     have:=h2 x rfl
     simp [this]
   | succ i =>
     have hx:=h1 0 x (by omega) rfl
     rw [List.takeWhile_cons_of_pos (by simpa using hx),List.length_cons,ih (i:=i) (fun j t hj ht=>h1 (j + 1) t (by omega) (by simpa using ht)) (by simpa using hi) (fun t ht=>h2 t (by simpa using ht))]
theorem wrap_u64 (x:Int):IntKind.u64.wrap x = x % 18446744073709551616:=rfl
set_option maxHeartbeats 8000000 in
set_option maxRecDepth 10000 in
theorem t57 (ts:List Tun) (n:Nat) (hn:ts.length = n) (hn2:n < 1000000) (hasc:ts.Pairwise fun a b=>a.ID < b.ID) (hid:∀ t ∈ ts,0 ≤ t.ID ∧ t.ID ≤ 9223372036854775807) (id:Int) (hi:0 ≤ id ∧ id ≤ 9223372036854775807) :
   CFun Tryz.prog 46 [.sl 12 (ts.map encT) .sh,.int .i64 id,.fn 47 [] []] [] (.tup [.int .i64 (posT id ts),.bool (ts.any (isID id))]) []:=by
 refine CFun.intro (tr:=[]) (fz:=[]) (n:=49) (rs:=[.tmp 6,.tmp 7]) Tryz.func46 rfl (by kernel_rfl) rfl rfl mixed (by kernel_rfl) (by simp) (by simp) ?_
 have h:=fun x (hx:x ∈ ts) H=>(t58 x id (hid x hx) hi).up' H rfl rfl
 have hp:=List.pairwise_iff_getElem.1 hasc
 simp [hn]
 refine LoopK.intro (tr:=[]) mixed (by kernel_rfl) (fun s:Nat × Nat=>[(0,.sl 12 (ts.map encT) .sh),(1,.int .i64 id),(2,.fn 47 [] []),(8,.int .i64 n),(9,.int .i64 s.1),(10,.int .i64 s.2)]) (fun _=>[])
   (fun s=>s.1 ≤ s.2 ∧ s.2 ≤ n ∧ (∀ (j:Nat) (t:Tun),j < s.1 → ts[j]? = some t → t.ID < id) ∧ ∀ (j:Nat) (t:Tun),s.2 ≤ j → ts[j]? = some t → id ≤ t.ID) (fun s=>s.2 - s.1) (0,n) ?_ ?_ ?_
 · refine ⟨Nat.zero_le _,Nat.le_refl _,fun j t hj=>by omega,fun j t hj ht=>?_⟩
   have:=(List.getElem?_eq_some_iff.1 ht).1
   simp only at hj
   omega
 · simp
 rintro ⟨a,b⟩ ⟨i1,i2,i3,i4⟩
 simp only at i1 i2 i3 i4
 by_cases hab:a < b
 · obtain ⟨m,hm⟩:∃ m,(a + b) / 2 = m:=⟨_,rfl⟩
   have hmid:m < n:=by omega
   obtain ⟨x,hx⟩:∃ x,ts[m]? = some x:=⟨_,List.getElem?_eq_getElem (by omega)⟩
   have hxm:=List.mem_of_getElem? hx
   have hc:=h x hxm
   have hxe:=(List.getElem?_eq_some_iff.1 hx).2
   have w1:IntKind.i64.wrap ((a:Int) + b) = a + b:=wrap_in (by omega)
   have w2:IntKind.u64.wrap ((a:Int) + b) = a + b:=by rw [wrap_u64]; omega
   have w3:((a:Int) + b).fdiv (2 ^ min 1 IntKind.u64.bits) = m:=by
     rw [show (2:Int) ^ min 1 IntKind.u64.bits = 2 from rfl,Int.fdiv_eq_ediv_of_nonneg _ (by omega)]
     omega
   have w4:IntKind.u64.wrap (m:Int) = m:=by rw [wrap_u64]; omega
   have w5:IntKind.i64.wrap (m:Int) = m:=wrap_in (by omega)
   have w6:IntKind.i64.wrap ((m:Int) + 1) = m + 1:=wrap_in (by omega)
   simp [hab,w1,w2,w3,w4,w5,hx,gE hx,hn,hmid]
   refine ⟨_,_,.inl (by simpa using hc _),by simp,?_⟩
   by_cases hb:x.ID < id
   · have hb':x.ID - id < 0:=by omega
     simp [hb,hb',w5,w6]
     refine ⟨m + 1,b,⟨by omega,i2,fun j t hj ht=>?_,i4⟩,by omega,by simp⟩
     rcases Nat.lt_or_ge j m with e | e
     · have:=hp j m (by omega) (by omega) e
       rw [(List.getElem?_eq_some_iff.1 ht).2,hxe] at this
       omega
     · have:j = m:=by omega
       subst this
       rw [hx] at ht
       injection ht with ht
       subst ht
       exact hb
   · have hb':¬ x.ID - id < 0:=by omega
     simp [hb,hb',w5,w6]
     refine ⟨a,m,⟨by omega,by omega,i3,fun j t hj ht=>?_⟩,by omega,by simp⟩
     rcases Nat.lt_or_ge m j with e | e
     · have hjl:=(List.getElem?_eq_some_iff.1 ht).1
       have:=hp m j (by omega) hjl e
       rw [(List.getElem?_eq_some_iff.1 ht).2,hxe] at this
       omega
     · have:j = m:=by omega
       subst this
       rw [hx] at ht
       injection ht with ht
       subst ht
       omega
 · have:a = b:=by omega
   subst this
   have hpos:posT id ts = a:=posT_of i3 (by omega) (fun t ht=>by have:=i4 a t (Nat.le_refl _) ht; omega)
   rw [hpos]
   have hany:ts.any (isID id) = match ts[a]? with | some x=>decide (x.ID = id) | none=>false:=by
     rw [Bool.eq_iff_iff,List.any_eq_true]
     constructor
     · rintro ⟨t,ht,he⟩
       simp only [isID,decide_eq_true_eq] at he
       obtain ⟨j,hj,hje⟩:=List.getElem_of_mem ht
       have hjt:ts[j]? = some t:=by rw [List.getElem?_eq_getElem hj,hje]
       have hja:j = a:=by
         rcases Nat.lt_trichotomy j a with e | e | e
         · have:=i3 j t e hjt; omega
         · exact e
         · have hal:a < ts.length:=by omega
           have h1:=hp a j hal hj e
           rw [hje] at h1
           have h2:=i4 a ts[a] (Nat.le_refl _) (List.getElem?_eq_getElem hal)
           omega
       subst hja
       rw [hjt]
       simp [he]
     · intro h
       cases ht:ts[a]? with
       | none=>rw [ht] at h; cases h
       | some x =>
         rw [ht] at h
         exact ⟨x,List.mem_of_getElem? ht,by simpa [isID] using h⟩
   rw [hany]
   by_cases han:a < n
   · obtain ⟨x,hx⟩:∃ x,ts[a]? = some x:=⟨_,List.getElem?_eq_getElem (by omega)⟩
     have hc:=h x (List.mem_of_getElem? hx)
     simp [hab,han,hx,gE hx,hn]
     refine ⟨_,_,.inl (by simpa using hc _),by simp,?_⟩
     by_cases hz:x.ID = id
     · have:x.ID - id = 0:=by omega
       simp [hz,this]
     · have:¬ x.ID - id = 0:=by omega
       simp [hz,this]
   · have e2:ts[a]? = none:=List.getElem?_eq_none (by omega)
     simp [hab,han,e2]
end Go.Proofs.YtpmmnnaaoideeaaGreat

/- Rows of numbers: clone, find and delete under the closure of Victims. -/
namespace Go.Proofs.YtpmmnnaaoideeaaGreat
open Go Go.Am Go.Wk
theorem encI_tree (us:List Int):(us.map encI).all AVal.tree = true:=by
 rw [List.all_map]; simp [AVal.tree,encI]
theorem encI_le (k:Nat) (us:List Int):LeCells k (us.map encI) (us.map encI):=treeCells_le k (encI_tree us)
set_option maxHeartbeats 4000000 in
set_option maxRecDepth 10000 in
theorem t44r (us:List Int) (hne:us ≠ []) (s1:us.length ≤ 1000000):CFun Tryz.prog 32 [.sl 1 (us.map encI) .sh] [] (.osl 0 0 us.length none 1) [us.map encI]:=by
 refine CFun.intro (tr:=[100007]) (fz:=[]) (n:=8) (rs:=[.tmp 2]) Tryz.func32 rfl (by kernel_rfl) rfl rfl mixed (by kernel_rfl) (by simp) (by simp) ?_
 have s2:us.length ≤ 140737488355328:=by omega
 have s6:us.length * 8 ≤ 140737488355328:=by omega
 have s3:0 < us.length:=List.length_pos_iff.2 hne
 have s4:(us.map encI).isEmpty = false:=by cases us <;> simp_all
 have s5:(us.map encI).flatMap AVal.cells = us.map encI:=by
   clear s2 s6 s3 s4 hne s1
   induction us with
   | nil=>rfl
   | cons x us ih=>simp only [List.map_cons,List.flatMap_cons,ih]; rfl
 have s7:(us.map encI).map AVal.dis = us.map encI:=by simp [AVal.dis]
 simp [hne,s1,s2,s3,s4,s6]
 first | (rw [s5,s7]; exact encI_le 1 us) | (simpa using encI_le 1 us)
set_option maxHeartbeats 4000000 in
set_option maxRecDepth 10000 in
theorem t44n:CFun Tryz.prog 32 [.sl 1 [] .sh] [] (.sl 1 [] .full) []:=by
 refine CFun.intro (tr:=[100007]) (fz:=[]) (n:=8) (rs:=[.tmp 2]) Tryz.func32 rfl (by kernel_rfl) rfl rfl mixed (by kernel_rfl) (by simp) (by simp) ?_
 simp
theorem eI:Enc (fun x:Int=>[AVal.int .i64 x]) 1:=⟨by decide,fun _=>rfl,fun _=>rfl,fun _=>rfl⟩
theorem rowI (l:List Int):rowC (fun x:Int=>[AVal.int .i64 x]) l = l.map encI:=by
 induction l with
 | nil=>rfl
 | cons x l ih=>rw [rowC_cons,ih]; rfl
def hV (c:Con) (r:List Lnk) (n:Nat) (us:List AVal):List (List AVal):=[cellsC c,rowC cellsL r,[.osl 1 0 n none 13],us]
def fullP (r:List Lnk) (b:Int) (i:Int):Bool:=decide (b ≤ (r.getD i.toNat lnk0).Fr 7)
set_option maxHeartbeats 4000000 in
set_option maxRecDepth 10000 in
theorem t45 (c:Con) (r:List Lnk) (n:Nat) (hn:r.length = n) (us:List Int) (i:Int) (h0:0 ≤ i) (h1:i < n):CFun Tryz.prog 33 [.int .i64 i,.ptr 2 0,.ptr 0 0] (hV c r n (us.map encI)) (.bool (fullP r c.Band i)) (hV c r n (us.map encI)):=by
 refine CFun.intro (tr:=[]) (fz:=[]) (n:=14) (rs:=[.tmp 4]) Tryz.func33 rfl (by kernel_rfl) rfl rfl mixed (by kernel_rfl) (by simp) (by simp) ?_
 obtain ⟨j,rfl⟩:∃ j:Nat,i = j:=⟨i.toNat,by omega⟩
 have hj:j < n:=by omega
 obtain ⟨x,hx⟩:∃ x,r[j]? = some x:=⟨_,List.getElem?_eq_getElem (by omega)⟩
 have hg:=rowL_get hx (k:=7) (by omega)
 have hrl:=encL_enc.rowLen r
 rw [hn] at hrl
 have b1:j * 13 + 4 + 7 < n * 13:=by omega
 have e:fullP r c.Band j = decide (c.Band ≤ x.Fr 7):=by
   unfold fullP
   rw [Int.toNat_natCast,List.getD_eq_getElem?_getD,hx]
   rfl
 have hle:=fun k=>encL_enc.rowLe k r
 have hle2:=fun k=>encI_le k us
 rw [e]
 simp only [hV]
 simp [hj,hg,gE hg,hrl,b1,hle,hle2]
set_option maxHeartbeats 4000000 in
set_option maxRecDepth 10000 in
theorem t69 (c:Con) (r:List Lnk) (n:Nat) (hn:r.length = n) (us:List Int) (m:Nat) (hm:us.length = m) (hm2:m < 1000000) (hus:∀ u ∈ us,0 ≤ u ∧ u < n) :
   CFun Tryz.prog 60 [.osl 3 0 m none 1,.fn 33 [] [.ptr 2 0,.ptr 0 0]] (hV c r n (us.map encI)) (.int .i64 (idxL (fullP r c.Band) us 0)) (hV c r n (us.map encI)):=by
 refine CFun.intro (tr:=[]) (fz:=[]) (n:=19) (rs:=[.tmp 4]) Tryz.func60 rfl (by kernel_rfl) rfl rfl mixed (by kernel_rfl) (by simp) (by simp) ?_
 have hc:=fun u (hu:u ∈ us)=>t45 c r n hn us u (hus u hu).1 (hus u hu).2
 have hle:=fun k=>encL_enc.rowLe k r
 have hle2:=fun k=>encI_le k us
 simp only [hV] at *
 simp
 refine LoopK.intro (tr:=[]) mixed (by kernel_rfl) (fun i:Nat=>[(0,.osl 3 0 m none 1),(1,.fn 33 [] [.ptr 2 0,.ptr 0 0]),(7,.int .i64 m),(8,.int .i64 i)]) (fun _=>hV c r n (us.map encI)) (fun i=>i ≤ m ∧ idxL (fullP r c.Band) us 0 = idxL (fullP r c.Band) (us.drop i) i) (fun i=>m - i) 0 ?_ ?_ ?_
 · simp
 · simp [hV,hle,hle2]
 · rintro i ⟨h1,h2⟩
   by_cases hi:i < m
   · obtain ⟨x,hx,hd⟩:=get_drop (l:=us) (i:=i) (by omega)
     rw [hd] at h2
     simp only [idxL] at h2
     have w1:IntKind.i64.wrap ((i:Int) + 1) = i + 1:=wrap_in (by omega)
     clear hd
     have hcx:=hc x (List.mem_of_getElem? hx)
     generalize fullP r c.Band x = b at hcx h2
     simp only [hV]
     simp [hi,hm,hx,gE hx]
     refine ⟨_,_,.inl (by simpa [cargs] using hcx),by simp,?_⟩
     cases b with
     | true=>simp at h2; simp [h2,hle,hle2]
     | false =>
       simp at h2
       simp [w1]
       exact ⟨i + 1,⟨by omega,h2⟩,by omega,by simp [hle,hle2]⟩
   · have:i = m:=by omega
     subst this
     rw [List.drop_eq_nil_of_le (by omega)] at h2
     simp only [hV]
     simp [h2,idxL,hle,hle2]
set_option maxHeartbeats 8000000 in
set_option maxRecDepth 10000 in
theorem t43 (c:Con) (r:List Lnk) (n:Nat) (hn:r.length = n) (us:List Int) (m:Nat) (hm:us.length = m) (hm2:m < 1000000) (hus:∀ u ∈ us,0 ≤ u ∧ u < n) :
   CFun Tryz.prog 31 [.osl 3 0 m none 1,.fn 33 [] [.ptr 2 0,.ptr 0 0]] (hV c r n (us.map encI)) (.osl 3 0 (us.filter fun x=>!fullP r c.Band x).length none 1) (hV c r n ((us.filter fun x=>!fullP r c.Band x).map encI ++ List.replicate (m - (us.filter fun x=>!fullP r c.Band x).length) AVal.undef)):=by
 refine CFun.intro (tr:=[]) (fz:=[]) (n:=42) (rs:=[.tmp 4]) Tryz.func31 rfl (by kernel_rfl) rfl rfl mixed (by kernel_rfl) (by simp) (by simp) ?_
 have hidx:=t69 c r n hn us m hm hm2 hus
 have hle:=fun k=>encL_enc.rowLe k r
 have hle2:=fun k us=>encI_le k us
 have hc:=fun (cur:List Int) u (hu:u ∈ us)=>t45 c r n hn cur u (hus u hu).1 (hus u hu).2
 generalize hp:fullP r c.Band = p at *
 simp only [hV] at *
 simp
 refine ⟨_,_,.inl (by simpa using hidx),by simp,?_⟩
 rcases idxL_spec p us 0 with ⟨e1,e2⟩ | ⟨i,e1,e2,e3⟩
 · simp [e1,e2,hm,hle,hle2]
 · have w0:IntKind.i64.wrap ((i:Int) + 1) = i + 1:=wrap_in (by omega)
   have hne:¬ ((i:Int) = -1):=by omega
   rw [Nat.zero_add] at e1
   simp [e1,w0,hne]
   refine LoopK.intro (tr:=[]) mixed (by kernel_rfl) (fun q:Nat × Nat × List Int=>[(0,.osl 3 0 m none 1),(1,.fn 33 [] [.ptr 2 0,.ptr 0 0]),(5,.int .i64 q.1),(6,.int .i64 q.2.1)]) (fun q=>hV c r n (q.2.2.map encI))
     (fun q=>q.1 < q.2.1 ∧ q.2.1 ≤ m ∧ q.2.2.length = m ∧ q.2.2.take q.1 = (us.take q.2.1).filter (fun x=>!p x) ∧ q.2.2.drop q.2.1 = us.drop q.2.1) (fun q=>m - q.2.1) (i,i + 1,us) ?_ ?_ ?_
   · exact ⟨by simp,by simp; omega,hm,e3.symm,rfl⟩
   · simp [hV,hle,hle2]
   · rintro ⟨a,b,cur⟩ ⟨h1,h2,h3,h4,h5⟩
     simp only at h1 h2 h3 h4 h5
     have hal:a < cur.length:=by omega
     by_cases hb:b < m
     · obtain ⟨x,hx,hd⟩:=get_drop (l:=us) (i:=b) (by omega)
       obtain ⟨y,hy,he⟩:=get_drop (l:=cur) (i:=b) (by omega)
       rw [hd,he,List.cons.injEq] at h5
       obtain ⟨rfl,h5⟩:=h5
       have hcall:=hc cur y (List.mem_of_getElem? hx)
       have w1:IntKind.i64.wrap ((b:Int) + 1) = b + 1:=wrap_in (by omega)
       have w2:IntKind.i64.wrap ((a:Int) + 1) = a + 1:=wrap_in (by omega)
       have htk:(us.take (b + 1)).filter (fun x=>!p x) = (us.take b).filter (fun x=>!p x) ++ [y].filter (fun x=>!p x):=by
         rw [List.take_add_one,hx]; simp
       have hle3:∀ k,LeCells k ((cur.map encI).set a (.int .i64 y)) ((cur.map encI).set a (.int .i64 y)):=fun k=>by
         have:=encI_le k (cur.set a y)
         rw [List.map_set] at this
         exact this
       have han:a < m:=by omega
       have han1:a + 1 ≤ m:=by omega
       clear hd he
       simp only [hV]
       cases hpx:p y with
       | true =>
         rw [hpx] at hcall
         simp [hb,h3,hy,gE hy]
         refine ⟨_,_,.inl (by simpa [cargs] using hcall),by simp,?_⟩
         simp [w1]
         refine ⟨a,b + 1,cur,⟨by omega,by omega,h3,by rw [htk]; simp [hpx,h4],h5⟩,by omega,?_⟩
         simp [hle,hle2]
       | false =>
         rw [hpx] at hcall
         have hset':(cur.set a y).take (a + 1) = (us.take (b + 1)).filter (fun x=>!p x):=by
           rw [htk,← h4,List.take_add_one,List.take_set_of_le (by omega)]
           simp [hal,hpx]
         simp [hb,h3,hy,gE hy]
         refine ⟨_,_,.inl (by simpa [cargs] using hcall),by simp,?_⟩
         simp [han,han1,h3,w1,w2]
         refine ⟨a + 1,b + 1,cur.set a y,⟨by omega,by omega,by simpa using h3,hset',?_⟩,by omega,?_⟩
         · rw [List.drop_set_of_lt (by omega)]; exact h5
         · simp [hle,hle2,hle3]
     · have:b = m:=by omega
       subst this
       rw [show us.take b = us from List.take_of_length_le (by omega)] at h4
       have hla:(us.filter fun x=>!p x).length = a:=by rw [← h4,List.length_take]; omega
       have ham:a ≤ b:=by omega
       have hrow:=eI.strike cur a (by omega) ((b - a) * 1) (by rw [h3]) (List.replicate (b - a) .undef) (by simp)
       simp only [Nat.mul_one,rowI] at hrow
       rw [h4] at hrow
       have hab:¬ b - a = 0:=by omega
       have hfit:a + (b - a) ≤ b:=by omega
       have hun:∀ k,LeCells k ((us.filter fun x=>!p x).map encI ++ List.replicate (b - a) AVal.undef) ((us.filter fun x=>!p x).map encI ++ List.replicate (b - a) AVal.undef):=fun k=>by
         have:=eI.roomLe k (b - a) (us.filter fun x=>!p x)
         rw [rowI] at this
         exact this
       simp only [hV]
       simp [hb,ham,hla,h3,hab,hfit,hrow,hle,hle2,hun,-setR]
end Go.Proofs.YtpmmnnaaoideeaaGreat
