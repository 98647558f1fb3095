/- The example of the document holds. -/
import Derived.Test.YtpmmnnaaoideeaaGreatGTL
set_option linter.unusedSimpArgs false
set_option linter.unusedVariables false
namespace Go.Proofs.YtpmmnnaaoideeaaGreat
open Go Go.Am Go.Wk
set_option maxHeartbeats 4000000 in
set_option maxRecDepth 10000 in
theorem t22 (n:Int):CFun Tryz.prog 26 [.int .i64 n] [] (.agg [.int .i64 n,.int .i64 n,.int .i64 n,.int .i64 n,.int .i64 n,.int .i64 n,.int .i64 n,.int .i64 n]) []:=by
 refine CFun.intro (tr:=[]) (fz:=[]) (n:=12) (rs:=[.cell 2 56]) Tryz.func26 rfl (by kernel_rfl) rfl rfl mixed (by kernel_rfl) (by simp) (by simp) ?_
 simp
set_option maxHeartbeats 4000000 in
set_option maxRecDepth 10000 in
theorem t25 (id b p:Int):CFun Tryz.prog 27 [.int .i64 id,.int .i64 b,.int .i64 p] [] (tnV id b p nl0 nl0) []:=by
 refine CFun.intro (tr:=[]) (fz:=[]) (n:=13) (rs:=[.cell 6 36]) Tryz.func27 rfl (by kernel_rfl) rfl rfl mixed (by kernel_rfl) (by simp) (by simp) ?_
 simp [tnV,nl0]
theorem r2:(([0,1]:List Nat) = List.range 2) = True:=by decide
theorem ex1f:CFun Tryz.prog 14 [.int .i64 2,.sl 13 [.agg [.int .i64 0,.int .i64 1,.int .i64 1,.int .i64 10,.int .i64 10,.int .i64 10,.int .i64 10,.int .i64 10,.int .i64 10,.int .i64 10,.int .i64 10,.int .i64 10,.int .u32 0]] .full,nl0,tnV 1 8 5 nl0 nl0] [] (.tup [lkV 10 10 10 10 10 2 2 2,.sl 12 [tnV 1 8 5 nlS p01] .sh,nl0,.int .i64 0]) [] :=
 ex1.wk _ (by simp [lkV,tnV,nl0]) ⟨LeS_refl _,by simp [LeS,lkV],LeS_refl _,LeS_refl _,trivial⟩
set_option maxHeartbeats 8000000 in
set_option maxRecDepth 10000 in
theorem t9:CFun Tryz.prog 7 [] [] (.bool true) []:=by
 refine CFun.intro (tr:=[]) (fz:=[]) (n:=99) (rs:=[.tmp 0]) Tryz.func7 rfl (by kernel_rfl) rfl rfl mixed (by kernel_rfl) (by simp) (by simp) ?_
 have h22:=t22
 have h25:=t25
 have h1:=ex1f
 have h2:=ex2
 have h3:=ex3
 have s1:=(c17 [1] [1] 1 1 rfl rfl (by decide) (by decide)).wk [.sl 1 [.int .i64 1] .sh,.sl 1 [.int .i64 1] .full] (by simp) (by simp [All2,LeS])
 have s2:=(c17 [0,1] [0,1] 2 2 rfl rfl (by decide) (by decide)).wk [.sl 1 [.int .i64 0,.int .i64 1] .sh,.sl 1 [.int .i64 0,.int .i64 1] .full] (by simp) (by simp [All2,LeS])
 simp only [lkV,tnV,nl0,nlS,p01] at *
 simp [r2]
 refine ⟨_,_,.inl (by simpa using h22 10),by simp,?_⟩
 simp [r2]
 refine ⟨_,_,.inl (by simpa using h25 1 8 5),by simp,?_⟩
 simp [r2]
 refine ⟨_,_,.inl (by simpa using h1),by simp,?_⟩
 simp [r2]
 refine ⟨_,_,.inl (by simpa using h25 2 5 3),by simp,?_⟩
 simp [r2]
 refine ⟨_,_,.inl (by simpa using h2),by simp,?_⟩
 simp [r2]
 refine ⟨_,_,.inl (by simpa using h25 3 6 7),by simp,?_⟩
 simp [r2]
 refine ⟨_,_,.inl (by simpa using h3),by simp,?_⟩
 simp [r2]
 refine ⟨_,_,.inl (by simpa using s1),by simp,?_⟩
 simp [r2]
 refine ⟨_,_,.inl (by simpa using s2),by simp,?_⟩
 simp [r2]
end Go.Proofs.YtpmmnnaaoideeaaGreat

/- Sums that may overflow; the same links; the law of giving back. -/
namespace Go.Proofs.YtpmmnnaaoideeaaGreat
open Go Go.Am Go.Wk
@[simp] theorem tq45:feq Tryz.prog 59 = some [true,true,true,true,true,true,true,true,true,true,true,true,true]:=by kernel_rfl
def outB (f:Int):Bool:=decide (1125899906842624 < f) || decide (f < -1125899906842624)
def bigK (f:Nat → Int):Nat → Bool
 | 0=>false
 | n + 1=>if outB (f (8 - (n + 1))) = true then true else bigK f n
def bigL (x:Lnk):Bool:=bigK x.Fr 8
theorem bigK_false {f:Nat → Int}:∀ n,n ≤ 8 → bigK f n = false → ∀ k,8 - n ≤ k → k < 8 → -1125899906842624 ≤ f k ∧ f k ≤ 1125899906842624
 | 0,_,_,k,h1,h2=>by omega
 | n + 1,hn,h,k,h1,h2=>by
   simp only [bigK] at h
   split at h
   · cases h
   rename_i g
   by_cases e:k = 8 - (n + 1)
   · subst e
     simp only [outB,Bool.or_eq_true,decide_eq_true_eq] at g
     omega
   · exact bigK_false n (by omega) h k (by omega) h2
theorem big_false {l:List Lnk} (h:l.any bigL = false):∀ x ∈ l,∀ k,k < 8 → -1125899906842624 ≤ x.Fr k ∧ x.Fr k ≤ 1125899906842624:=by
 rw [List.any_eq_false] at h
 intro x hx k hk
 exact bigK_false 8 (Nat.le_refl _) (by simpa [bigL] using h x hx) k (by omega) hk
set_option maxHeartbeats 8000000 in
set_option maxRecDepth 10000 in
theorem t12 (l:List Lnk) (n:Nat) (hn:l.length = n) (hn2:n < 1000000):CFun Tryz.prog 13 [.sl 13 (l.map encL) .sh] [] (.bool (l.any bigL)) []:=by
 refine CFun.intro (tr:=[]) (fz:=[]) (n:=26) (rs:=[.tmp 2]) Tryz.func13 rfl (by kernel_rfl) rfl rfl mixed (by kernel_rfl) (by simp) (by simp) ?_
 obtain ⟨T,hT⟩:∃ T,T = l.any bigL:=⟨_,rfl⟩
 rw [← hT]
 simp
 refine LoopK.intro (tr:=[]) mixed (by kernel_rfl) (fun i:Nat=>[(7,.sl 13 (l.map encL) .sh),(8,.int .i64 n),(9,.int .i64 i)]) (fun _=>[]) (fun i=>i ≤ n ∧ T = (l.drop i).any bigL) (fun i=>n - i) 0 ?_ ?_ ?_
 · simp [hT]
 · simp [hn]
 · rintro i ⟨h1,h2⟩
   by_cases hi:i < n
   · obtain ⟨x,hx,hd⟩:=get_drop (l:=l) (i:=i) (by omega)
     rw [hd,List.any_cons] at h2
     have w1:IntKind.i64.wrap ((i:Int) + 1) = i + 1:=wrap_in (by omega)
     clear hd hT
     simp [hi,hn,hx,gE hx]
     refine LoopK.intro (tr:=[]) mixed (by kernel_rfl) (fun k:Nat=>[(7,.sl 13 (l.map encL) .sh),(8,.int .i64 n),(9,.int .i64 i),(14,.agg (frC x)),(15,.int .i64 k)]) (fun _=>[]) (fun k=>k ≤ 8 ∧ bigL x = bigK x.Fr (8 - k)) (fun k=>8 - k) 0 ?_ ?_ ?_
     · exact ⟨by omega,rfl⟩
     · simp
     · rintro k ⟨k1,k2⟩
       by_cases hk:k < 8
       · obtain ⟨f,hf⟩:∃ f,8 - k = f + 1:=⟨7 - k,by omega⟩
         have hkk:8 - (f + 1) = k:=by omega
         rw [hf] at k2
         simp only [bigK,hkk] at k2
         have hg:=frC_get x hk
         have w2:IntKind.i64.wrap ((k:Int) + 1) = k + 1:=wrap_in (by omega)
         have hk':(k:Int) < 8:=by omega
         have hk7:k ≤ 7:=by omega
         unfold outB at k2
         by_cases g1:1125899906842624 < x.Fr k
         · have:bigL x = true:=by rw [k2,if_pos (by simp [g1])]
           rw [this] at h2
           simp [hk,hk',hk7,hg,gE hg,g1,h2]
         by_cases g2:x.Fr k < -1125899906842624
         · have:bigL x = true:=by rw [k2,if_pos (by simp [g2])]
           rw [this] at h2
           simp [hk,hk',hk7,hg,gE hg,g1,g2,h2]
         rw [if_neg (by simp; omega)] at k2
         simp [hk,hk',hk7,hg,gE hg,g1,g2,w2]
         exact ⟨k + 1,⟨by omega,by rw [k2,show 8 - (k + 1) = f by omega]⟩,by omega,by simp⟩
       · have:k = 8:=by omega
         subst this
         rw [k2] at h2
         simp [bigK] at h2
         simp [w1]
         exact ⟨i + 1,⟨by omega,by simpa using h2⟩,by omega,by simp⟩
   · have:i = n:=by omega
     subst this
     rw [List.drop_eq_nil_of_le (by omega)] at h2
     simp [hn,h2]
theorem eqL (x:Lnk):acmp [true,true,true,true,true,true,true,true,true,true,true,true,true] (cellsL x) (cellsL x) = some true:=by
 simp [cellsL,frC,frs,acmp]
set_option maxHeartbeats 8000000 in
set_option maxRecDepth 10000 in
theorem t17 (l:List Lnk) (n:Nat) (hn:l.length = n) (hn2:n < 9223372036854775807):CFun Tryz.prog 16 [.sl 13 (l.map encL) .sh,.sl 13 (l.map encL) .sh] [] (.bool true) []:=by
 refine CFun.intro (tr:=[]) (fz:=[]) (n:=26) (rs:=[.tmp 4]) Tryz.func16 rfl (by kernel_rfl) rfl rfl mixed (by kernel_rfl) (by simp) (by simp) ?_
 simp [hn]
 refine LoopK.intro (tr:=[]) mixed (by kernel_rfl) (fun i:Nat=>[(1,.sl 13 (l.map encL) .sh),(12,.sl 13 (l.map encL) .sh),(13,.int .i64 n),(14,.int .i64 i)]) (fun _=>[]) (fun i=>i ≤ n) (fun i=>n - i) 0 ?_ ?_ ?_
 · simp
 · simp
 · intro i h1
   by_cases hi:i < n
   · obtain ⟨x,hx⟩:∃ x,l[i]? = some x:=⟨_,List.getElem?_eq_getElem (by omega)⟩
     have w1:IntKind.i64.wrap ((i:Int) + 1) = i + 1:=wrap_in (by omega)
     have he:=eqL x
     simp [hi,hn,hx,gE hx,he,w1]
     exact ⟨i + 1,by omega,by omega,by simp⟩
   · have:i = n:=by omega
     subst this
     simp [hn]
end Go.Proofs.YtpmmnnaaoideeaaGreat

/- The reference's links of a path. -/
namespace Go.Proofs.YtpmmnnaaoideeaaGreat
open Go Go.Am Go.Wk
set_option maxHeartbeats 4000000 in
set_option maxRecDepth 10000 in
theorem t66 (l:List Lnk) (n:Nat) (hn:l.length = n) (hn2:n < 9223372036854775807) (a b:Int):CFun Tryz.prog 57 [.sl 13 (l.map encL) .sh,.int .i64 a,.int .i64 b] [] (.int .i64 (findI l a b)) []:=by
 refine CFun.intro (tr:=[]) (fz:=[]) (n:=28) (rs:=[.tmp 6]) Tryz.func57 rfl (by kernel_rfl) rfl rfl mixed (by kernel_rfl) (by simp) (by simp) ?_
 obtain ⟨T,hT⟩:∃ T,T = findI l a b:=⟨_,rfl⟩
 rw [← hT]
 simp
 refine LoopK.intro (tr:=[]) mixed (by kernel_rfl) (fun i:Nat=>[(1,.int .i64 a),(2,.int .i64 b),(9,.sl 13 (l.map encL) .sh),(10,.int .i64 n),(11,.int .i64 i)]) (fun _=>[]) (fun i=>i ≤ n ∧ T = idxL (isL a b) (l.drop i) i) (fun i=>n - i) 0 ?_ ?_ ?_
 · exact ⟨by omega,hT⟩
 · simp [hn]
 · rintro i ⟨h1,h2⟩
   by_cases hi:i < n
   · obtain ⟨x,hx,hd⟩:=get_drop (l:=l) (i:=i) (by omega)
     rw [hd] at h2
     simp only [idxL] at h2
     have w1:IntKind.i64.wrap ((i:Int) + 1) = i + 1:=wrap_in (by omega)
     clear hd
     by_cases g1:x.From = a
     · by_cases g2:x.To = b
       · simp [isL,g1,g2] at h2
         simp [hi,hn,hx,gE hx,g1,g2,h2]
       · simp [isL,g1,g2] at h2
         simp [hi,hn,hx,gE hx,g1,g2,w1]
         exact ⟨i + 1,⟨by omega,h2⟩,by omega,by simp⟩
     · simp [isL,g1] at h2
       simp [hi,hn,hx,gE hx,g1,w1]
       exact ⟨i + 1,⟨by omega,h2⟩,by omega,by simp⟩
   · have:i = n:=by omega
     subst this
     rw [List.drop_eq_nil_of_le (by omega)] at h2
     simp [idxL] at h2
     simp [hn,h2]
theorem lend66 {H:List (List AVal)} {id:Nat} {l:List Lnk} {n:Nat} (hid:H[id]? = some (rowC cellsL l)) (hn:l.length = n) (h0:0 < n) (hn2:n < 9223372036854775807) (a b:Int) :
   CFun Tryz.prog 57 [.osl id 0 n none 13,.int .i64 a,.int .i64 b] H (.int .i64 (findI l a b)) H:=by
 have h:=t66 l n hn hn2 a b
 have hrl:=encL_enc.rowLen l
 have hne:rowC cellsL l ≠ []:=by
   intro e
   rw [e] at hrl
   simp at hrl
   omega
 have hch:=encL_enc.chunk l n hn
 have e:frzV id (rowC cellsL l) true false (.osl id 0 n none 13) = .sl 13 (l.map encL) .sh:=by
   simp [frzV,frz1,hch,hrl,hn]
 have:=CFun.lend (args:=[.osl id 0 n none 13,.int .i64 a,.int .i64 b]) (id:=id) (cs:=rowC cellsL l) (cs0:=rowC cellsL l) (ag:=true) (x:=.int .i64 (findI l a b)) (f:=57) (P:=Tryz.prog) (by simp only [List.map_cons,List.map_nil,e]; exact h) hid hne (fun _ _ h=>h) (Nat.le_refl _) (encL_enc.rowTree l) (by simp only [List.map_cons,List.map_nil,e]; rfl) rfl
 exact this
set_option maxHeartbeats 4000000 in
set_option maxRecDepth 10000 in
theorem t31 (l:List Lnk) (k:Nat) (hk:l.length = k) (hk2:k < 9223372036854775807) (p:List Int) (m:Nat) (hm:p.length = m) (hm2:m < 1000000):CFun Tryz.prog 24 [.sl 13 (l.map encL) .sh,.sl 1 (p.map encI) .sh] [] (.bool (!hasB (usesL l p) (-1))) []:=by
 refine CFun.intro (tr:=[]) (fz:=[]) (n:=24) (rs:=[.tmp 4]) Tryz.func24 rfl (by kernel_rfl) rfl rfl mixed (by kernel_rfl) (by simp) (by simp) ?_
 have h:=fun a b H=>(t66 l k hk hk2 a b).up' H rfl rfl
 obtain ⟨T,hT⟩:∃ T,T = !hasB (usesL l p) (-1):=⟨_,rfl⟩
 rw [← hT]
 simp
 refine LoopK.intro (tr:=[]) mixed (by kernel_rfl) (fun i:Nat=>[(0,.sl 13 (l.map encL) .sh),(1,.sl 1 (p.map encI) .sh),(5,.int .i64 (i + 1))]) (fun _=>[])
   (fun i=>i ≤ m ∧ T = !hasB (usesL l (p.drop i)) (-1)) (fun i=>m - i) 0 ?_ ?_ ?_
 · simp [hT]
 · simp
 · rintro i ⟨h1,h2⟩
   by_cases hi:i + 1 < m
   · obtain ⟨x,hx⟩:∃ x,p[i]? = some x:=⟨_,List.getElem?_eq_getElem (by omega)⟩
     obtain ⟨y,hy⟩:∃ y,p[i + 1]? = some y:=⟨_,List.getElem?_eq_getElem (by omega)⟩
     rw [usesL_drop hx hy] at h2
     have hf:=h x y
     have hr:=findI_range l x y
     generalize findI l x y = f at *
     have w3:IntKind.i64.wrap ((i:Int) + 1 + 1) = (i:Int) + 1 + 1:=wrap_in (by omega)
     have w4:IntKind.i64.wrap (i:Int) = i:=wrap_in (by omega)
     have hi':(i:Int) + 1 < m:=by omega
     have hi2:i < m:=by omega
     have hn:((i:Int) + 1).toNat = i + 1:=by omega
     by_cases g:f < 0
     · have:f = -1:=by omega
       have:T = false:=by rw [h2,this]; simp [hasB,isI]
       simp [hi,hi',hi2,hm,hx,gE hx,hy,gE hy,w4,hn]
       refine ⟨_,_,.inl (by simpa [cargs] using hf _),by simp [cargs],?_⟩
       simp [g,this]
     · have:T = !hasB (usesL l (p.drop (i + 1))) (-1):=by
         have e:¬ f = -1:=by omega
         rw [h2]; simp [hasB,isI,e]
       simp [hi,hi',hi2,hm,hx,gE hx,hy,gE hy,w4,hn]
       refine ⟨_,_,.inl (by simpa [cargs] using hf _),by simp [cargs],?_⟩
       simp [g,w3]
       exact ⟨i + 1,⟨by omega,this⟩,by omega,by simp⟩
   · have hi':¬ (i:Int) + 1 < m:=by omega
     rw [usesL_short (by rw [List.length_drop]; omega)] at h2
     have:T = true:=by rw [h2]; rfl
     simp [hi,hi',hm,this]
set_option maxHeartbeats 4000000 in
set_option maxRecDepth 10000 in
theorem t39 (l:List Lnk) (k:Nat) (hk:l.length = k) (hk2:k < 9223372036854775807) (p:List Int) (m:Nat) (hm:p.length = m) (hm2:m < 1000000) (j:Nat):CFun Tryz.prog 38 [.sl 13 (l.map encL) .sh,.sl 1 (p.map encI) .sh,.int .i64 j] [] (.int .i64 (cntI j (usesL l p))) []:=by
 refine CFun.intro (tr:=[]) (fz:=[]) (n:=31) (rs:=[.tmp 6]) Tryz.func38 rfl (by kernel_rfl) rfl rfl mixed (by kernel_rfl) (by simp) (by simp) ?_
 have h:=fun a b H=>(t66 l k hk hk2 a b).up' H rfl rfl
 obtain ⟨T,hT⟩:∃ T,T = cntI j (usesL l p):=⟨_,rfl⟩
 rw [← hT]
 simp
 refine LoopK.intro (tr:=[]) mixed (by kernel_rfl) (fun s:Nat × Nat=>[(0,.sl 13 (l.map encL) .sh),(1,.sl 1 (p.map encI) .sh),(2,.int .i64 j),(7,.int .i64 s.2),(8,.int .i64 (s.1 + 1))]) (fun _=>[])
   (fun s=>s.1 ≤ m ∧ s.2 ≤ s.1 ∧ T = s.2 + cntI j (usesL l (p.drop s.1))) (fun s=>m - s.1) (0,0) ?_ ?_ ?_
 · simp [hT]
 · simp
 · rintro ⟨i,c⟩ ⟨h1,h0,h2⟩
   simp only at h1 h0 h2
   by_cases hi:i + 1 < m
   · obtain ⟨x,hx⟩:∃ x,p[i]? = some x:=⟨_,List.getElem?_eq_getElem (by omega)⟩
     obtain ⟨y,hy⟩:∃ y,p[i + 1]? = some y:=⟨_,List.getElem?_eq_getElem (by omega)⟩
     rw [usesL_drop hx hy,cntI_cons] at h2
     have hf:=h x y
     generalize findI l x y = f at *
     have w3:IntKind.i64.wrap ((i:Int) + 1 + 1) = (i:Int) + 1 + 1:=wrap_in (by omega)
     have w4:IntKind.i64.wrap (i:Int) = i:=wrap_in (by omega)
     have w5:IntKind.i64.wrap ((c:Int) + 1) = (c:Int) + 1:=wrap_in (by omega)
     have hi':(i:Int) + 1 < m:=by omega
     have hi2:i < m:=by omega
     have hn:((i:Int) + 1).toNat = i + 1:=by omega
     by_cases g:f = (j:Int)
     · rw [if_pos g] at h2
       simp [hi,hi',hi2,hm,hx,gE hx,hy,gE hy,w4,hn]
       refine ⟨_,_,.inl (by simpa [cargs] using hf _),by simp [cargs],?_⟩
       simp [g,w3,w5]
       exact ⟨i + 1,c + 1,⟨by omega,by omega,by omega⟩,by omega,by simp⟩
     · rw [if_neg g] at h2
       simp [hi,hi',hi2,hm,hx,gE hx,hy,gE hy,w4,hn]
       refine ⟨_,_,.inl (by simpa [cargs] using hf _),by simp [cargs],?_⟩
       simp [g,w3]
       exact ⟨i + 1,c,⟨by omega,by omega,by omega⟩,by omega,by simp⟩
   · have hi':¬ (i:Int) + 1 < m:=by omega
     rw [usesL_short (by rw [List.length_drop]; omega)] at h2
     simp [cntI] at h2
     simp [hi,hi',hm,h2]
def amtB (h b:Int):Bool:=decide (0 ≤ h) && decide (h ≤ 7) && decide (0 ≤ b) && decide (b ≤ 1099511627776)
set_option maxHeartbeats 4000000 in
set_option maxRecDepth 10000 in
theorem t36 (h b:Int):CFun Tryz.prog 36 [.int .i64 h,.int .i64 b] [] (.bool (amtB h b)) []:=by
 refine CFun.intro (tr:=[]) (fz:=[]) (n:=19) (rs:=[.tmp 4]) Tryz.func36 rfl (by kernel_rfl) rfl rfl mixed (by kernel_rfl) (by simp) (by simp) ?_
 unfold amtB
 by_cases g1:0 ≤ h
 · by_cases g2:h ≤ 7
   · by_cases g3:0 ≤ b
     · by_cases g4:b ≤ 1099511627776 <;> simp [g1,g2,g3,g4]
     · simp [g1,g2,g3]
   · simp [g1,g2]
 · simp [g1]
end Go.Proofs.YtpmmnnaaoideeaaGreat

/- Checks of tunnels. -/
namespace Go.Proofs.YtpmmnnaaoideeaaGreat
open Go Go.Am Go.Wk
set_option maxHeartbeats 4000000 in
set_option maxRecDepth 10000 in
theorem t64 (l:List Int) (n:Nat) (hn:l.length = n) (hlen:n < 9223372036854775807):CFun Tryz.prog 89 [.sl 1 (l.map encI) .sh] [] (.bool (repB l)) []:=by
 refine CFun.intro (tr:=[]) (fz:=[]) (n:=18) (rs:=[.tmp 2]) Tryz.func89 rfl (by kernel_rfl) rfl rfl mixed (by kernel_rfl) (by simp) (by simp) ?_
 unfold repB
 rw [hn]
 simp
 refine LoopK.intro (tr:=[]) mixed (by kernel_rfl) (fun i:Nat=>[(0,.sl 1 (l.map encI) .sh),(5,.sl 1 (l.map encI) .sh),(6,.int .i64 n),(7,.int .i64 i)]) (fun _=>[]) (fun i=>i ≤ n ∧ repI l n n = repI l n (n - i)) (fun i=>n - i) 0 ?_ ?_ ?_
 · simp
 · simp [hn]
 · rintro i ⟨h1,h2⟩
   by_cases hi:i < n
   · obtain ⟨x,hx,_⟩:=get_drop (l:=l) (i:=i) (by omega)
     have w1:IntKind.i64.wrap ((i:Int) + 1) = i + 1:=wrap_in (by omega)
     rw [repI_step l n i hi] at h2
     have hd:l.getD i 0 = x:=by simp [hx]
     rw [hd] at h2
     have k1:=fun H=>(c24 (l.take i) i (by simp; omega) (by omega) x).up' H (by simp [noid,noid0]) rfl
     generalize hasB (l.take i) x = b at k1 h2
     simp [hi,hn,hx,gE hx,h1]
     refine ⟨_,_,.inl (by simpa using k1 _),by simp,?_⟩
     cases b with
     | true=>simp at h2; simp [h2]
     | false =>
       simp at h2
       simp [w1]
       exact ⟨i + 1,⟨by omega,h2⟩,by omega,by simp⟩
   · have:i = n:=by omega
     subst this
     rw [Nat.sub_self] at h2
     simp [hn,h2,repI]
def endsE (n:Int) (t:Tun):Int:=if t.From < 0 ∨ n ≤ t.From ∨ t.To < 0 ∨ n ≤ t.To then 5 else if t.From = t.To then 1 else 0
set_option maxHeartbeats 4000000 in
set_option maxRecDepth 10000 in
theorem t63 (n:Int) (t:Tun):CFun Tryz.prog 68 [.int .i64 n,encT t] [] (.int .i64 (endsE n t)) []:=by
 refine CFun.intro (tr:=[]) (fz:=[]) (n:=30) (rs:=[.tmp 4]) Tryz.func68 rfl (by kernel_rfl) rfl rfl mixed (by kernel_rfl) (by simp) (by simp) ?_
 unfold endsE
 by_cases g1:t.From < 0
 · simp [g1]
 by_cases g2:n ≤ t.From
 · simp [g1,g2]
 by_cases g3:t.To < 0
 · simp [g1,g2,g3]
 by_cases g4:n ≤ t.To
 · simp [g1,g2,g3,g4]
 by_cases g5:t.From = t.To
 · simp [g5,g3,g4]
 simp [g1,g2,g3,g4,g5]
set_option maxHeartbeats 4000000 in
set_option maxRecDepth 10000 in
theorem t29 (n:Int) (t:Tun):CFun Tryz.prog 22 [.int .i64 n,encT t] [] (.int .i64 (endsE n t)) []:=by
 refine CFun.intro (tr:=[]) (fz:=[]) (n:=30) (rs:=[.tmp 4]) Tryz.func22 rfl (by kernel_rfl) rfl rfl mixed (by kernel_rfl) (by simp) (by simp) ?_
 unfold endsE
 by_cases g1:t.From < 0
 · simp [g1]
 by_cases g2:n ≤ t.From
 · simp [g1,g2]
 by_cases g3:t.To < 0
 · simp [g1,g2,g3]
 by_cases g4:n ≤ t.To
 · simp [g1,g2,g3,g4]
 by_cases g5:t.From = t.To
 · simp [g5,g3,g4]
 simp [g1,g2,g3,g4,g5]
def pathB (l:List Lnk) (t:Tun):Bool:=if t.P.length = 0 then false else decide (t.P.getD 0 0 ≠ t.From) || decide (t.P.getD (t.P.length - 1) 0 ≠ t.To) || repB t.P || hasB (usesL l t.P) (-1)
def tunE (n:Int) (l:List Lnk) (t:Tun):Int:=if conE n t.W ≠ 0 then conE n t.W else if endsE n t ≠ 0 then endsE n t else if pathB l t = true then 20 else 0
def con0:Con:=⟨0,0,0,0,0,0,[],[]⟩
theorem checkE_con {n:Int} {l:List Lnk} (h:checkE n l con0 = 0) (c:Con):checkE n l c = conE n c ∧ checkE n [] c = conE n c:=by
 obtain ⟨n1,n2,l2,lk,cn⟩:=check_links h
 unfold checkE
 rw [if_neg (by omega),if_neg (by omega),if_neg (by simpa using lk),if_neg (by omega),if_neg (by simp),if_neg (by simp [linksE])]
 exact ⟨rfl,rfl⟩
structure okTn (t:Tun):Prop where
  p:t.P.length < 1000000
  a:t.W.Avoid.length < 9223372036854775807
  h:t.W.Thru.length < 9223372036854775807
set_option maxHeartbeats 8000000 in
set_option maxRecDepth 10000 in
theorem t27 (n:Int) (l:List Lnk) (k:Nat) (hk:l.length = k) (hk2:k < 9223372036854775807) (hc:checkE n l con0 = 0) (t:Tun) (ok:okTn t) :
   CFun Tryz.prog 64 [.int .i64 n,.sl 13 (l.map encL) .sh,encT t] [] (.int .i64 (tunE n l t)) []:=by
 refine CFun.intro (tr:=[]) (fz:=[]) (n:=58) (rs:=[.tmp 6]) Tryz.func64 rfl (by kernel_rfl) rfl rfl mixed (by kernel_rfl) (by simp) (by simp) ?_
 have h26:=fun H=>((c12 [] 0 rfl (by decide) t.W n _ _ rfl rfl ok.a ok.h).up' H (by simp [noid,noid0]) rfl).wk [.int .i64 n,.sl 0 [] .full,encC t.W] (by simp [noid,noid0]) ⟨LeS_refl _,by simp [LeS],LeS_refl _,trivial⟩
 rw [(checkE_con hc t.W).2] at h26
 have h63:=fun H=>(t63 n t).up' H (by simp [noid,noid0]) rfl
 have h64:=fun H=>(t64 t.P t.P.length rfl (by have:=ok.p; omega)).up' H rfl rfl
 have h41:=fun H=>(t41 l k hk hk2 t.P t.P.length rfl ok.p).up' H rfl rfl
 have h42:=fun H=>(c24 (usesL l t.P) (t.P.length - 1) (by rw [usesL_len]) (by have:=ok.p; omega) (-1)).up' H rfl rfl
 have hpl:=ok.p
 unfold tunE pathB
 obtain ⟨m,hm⟩:∃ m,t.P.length = m:=⟨_,rfl⟩
 rw [hm] at hpl ⊢
 generalize conE n t.W = e1 at *
 generalize endsE n t = e2 at *
 generalize usesL l t.P = us at *
 generalize hasB us (-1) = b4 at *
 generalize repB t.P = b3 at *
 by_cases g1:e1 = 0
 case neg =>
   simp
   refine ⟨_,_,.inl (by simpa using h26 _),by simp,?_⟩
   simp [g1]
 subst g1
 by_cases g2:e2 = 0
 case neg =>
   simp
   refine ⟨_,_,.inl (by simpa using h26 _),by simp,?_⟩
   simp
   refine ⟨_,_,.inl (by simpa using h63 _),by simp,?_⟩
   simp [g2]
 subst g2
 simp
 refine ⟨_,_,.inl (by simpa using h26 _),by simp,?_⟩
 simp
 refine ⟨_,_,.inl (by simpa using h63 _),by simp,?_⟩
 by_cases g3:m = 0
 · simp [hm,g3]
 obtain ⟨x,hx⟩:∃ x,t.P[0]? = some x:=⟨_,List.getElem?_eq_getElem (by omega)⟩
 obtain ⟨y,hy⟩:∃ y,t.P[m - 1]? = some y:=⟨_,List.getElem?_eq_getElem (by omega)⟩
 have hm1:0 < m:=by omega
 have hm2:m - 1 < m:=by omega
 have w1:IntKind.i64.wrap ((m:Int) - 1) = ((m - 1:Nat):Int):=by
   rw [show ((m - 1:Nat):Int) = (m:Int) - 1 by omega]; exact wrap_in (by omega)
 by_cases g4:x = t.From
 case neg=>simp [hm,g3,hm1,hx,gE hx,g4]
 by_cases g5:y = t.To
 case neg=>simp [hm,g3,hm1,hm2,w1,hx,gE hx,hy,gE hy,g4,g5]
 simp [hm,g3,hm1,hm2,w1,hx,gE hx,hy,gE hy,g4,g5]
 refine ⟨_,_,.inl (by simpa [cargs] using h64 _),by simp [cargs],?_⟩
 cases b3 with
 | true=>simp
 | false =>
   simp [hm,g3,hm1,hm2,w1,hx,gE hx,hy,gE hy,g4,g5]
   refine ⟨_,_,.inl (by simpa [cargs] using h41 _),by simp [cargs],?_⟩
   simp
   refine ⟨_,_,.inl (by simpa [cargs] using h42 _),by simp [cargs],?_⟩
   cases b4 <;> simp
end Go.Proofs.YtpmmnnaaoideeaaGreat

/- tunnel.agree, by the program. -/
namespace Go.Proofs.YtpmmnnaaoideeaaGreat
open Go Go.Am Go.Wk
theorem eAr:Enc arC 8:=⟨by decide,fun _=>rfl,fun _=>rfl,fun _=>rfl⟩
def oneT (l:List Lnk) (t:Tun) (i k:Nat):Int:=takenF t.W.Hold t.W.Band k * (cntI i (usesL l t.P):Int)
def totT (l:List Lnk):List Tun → Nat → Nat → Int
 | [],_,_=>0
 | t :: ts,i,k=>oneT l t i k + totT l ts i k
theorem totT_snoc (l:List Lnk):∀ (ts:List Tun) (t:Tun) (i k:Nat),totT l (ts ++ [t]) i k = totT l ts i k + oneT l t i k
 | [],t,i,k=>by simp [totT]
 | x :: ts,t,i,k=>by simp only [List.cons_append,totT,totT_snoc l ts t i k]; omega
structure okA (l:List Lnk) (t:Tun):Prop where
  h0:0 ≤ t.W.Hold
  h7:t.W.Hold ≤ 7
  b0:0 ≤ t.W.Band
  b1:t.W.Band ≤ 1099511627776
  us:∀ u ∈ usesL l t.P,0 ≤ u ∧ u < l.length
  p:t.P.length ≤ 30
theorem cntI_le (i:Nat) (us:List Int):cntI i us ≤ us.length:=List.countP_le_length
theorem taken_bd {l:List Lnk} {t:Tun} (ok:okA l t) (k:Nat):0 ≤ takenF t.W.Hold t.W.Band k ∧ takenF t.W.Hold t.W.Band k ≤ 1099511627776:=by
 have:=ok.b0; have:=ok.b1
 unfold takenF; split <;> omega
theorem mul_bd {a:Int} (h:0 ≤ a ∧ a ≤ 1099511627776) {c:Nat} (hc:c ≤ 30):0 ≤ a * (c:Int) ∧ a * (c:Int) ≤ 32985348833280:=by
 refine ⟨Int.mul_nonneg h.1 (Int.natCast_nonneg c),?_⟩
 have:a * (c:Int) ≤ 1099511627776 * 30:=Int.mul_le_mul h.2 (by omega) (Int.natCast_nonneg c) (by omega)
 omega
theorem oneT_bd {l:List Lnk} {t:Tun} (ok:okA l t) (i k:Nat):0 ≤ oneT l t i k ∧ oneT l t i k ≤ 32985348833280:=by
 refine mul_bd (taken_bd ok k) ?_
 have h1:=cntI_le i (usesL l t.P)
 rw [usesL_len] at h1
 have:=ok.p
 omega
theorem totT_bd {l:List Lnk}:∀ {ts:List Tun},(∀ t ∈ ts,okA l t) → ∀ i k,0 ≤ totT l ts i k ∧ totT l ts i k ≤ 32985348833280 * ts.length
 | [],_,i,k=>by simp [totT]
 | t :: ts,h,i,k=>by
   have h1:=oneT_bd (h t (by simp)) i k
   have h2:=totT_bd (fun t ht=>h t (List.mem_cons_of_mem _ ht)) i k (ts:=ts)
   simp only [totT,List.length_cons]
   omega
theorem cntI_take {us:List Int} {q:Nat} {v:Int} (hv:us[q]? = some v) (i:Nat):cntI i (us.take (q + 1)) = cntI i (us.take q) + if v = (i:Int) then 1 else 0:=by
 rw [List.take_add_one,hv]
 unfold cntI
 rw [List.countP_append]
 simp only [Option.toList_some,List.countP_cons,List.countP_nil,decide_eq_true_eq]
 omega
theorem rowA_get {S:List (Nat → Int)} {i:Nat} {f:Nat → Int} (h:S[i]? = some f) {k:Nat} (hk:k < 8):(rowC arC S)[i * 8 + k]? = some (.int .i64 (f k)):=by
 have h1:=(eAr.rowAt h []).1
 rw [List.append_nil] at h1
 have h2:(((rowC arC S).drop (i * 8)).take 8)[k]? = some (.int .i64 (f k)):=by rw [h1]; exact arC_get f hk
 rw [List.getElem?_take_of_lt (by omega),List.getElem?_drop] at h2
 exact h2
theorem rowA_set {S:List (Nat → Int)} {i:Nat} {f:Nat → Int} (h:S[i]? = some f) {k:Nat} (hk:k < 8) (v:Int):(rowC arC S).set (i * 8 + k) (.int .i64 v) = rowC arC (S.set i (updF f k v)):=by
 induction S generalizing i with
 | nil=>simp at h
 | cons y S ih =>
   cases i with
   | zero =>
     simp at h
     subst h
     rw [rowC_cons,Nat.zero_mul,Nat.zero_add,List.set_append_left _ _ (by simp; omega),arC_set _ hk,List.set_cons_zero,rowC_cons]
   | succ i =>
     rw [rowC_cons,List.set_append_right _ _ (by simp; omega),arC_len,List.set_cons_succ,rowC_cons]
     rw [show (i + 1) * 8 + k - 8 = i * 8 + k by omega,ih (by simpa using h)]
def gk (f u:Nat → Int) (k:Nat):Nat → Int:=fun j=>if j < k then f j + u j else f j
theorem gk_zero (f u:Nat → Int):gk f u 0 = f:=by funext j; simp [gk]
theorem gk_at (f u:Nat → Int) (k:Nat):gk f u k k = f k:=by simp [gk]
theorem gk_upd (f u:Nat → Int) (k:Nat):updF (gk f u k) k (f k + u k) = gk f u (k + 1):=by
 funext j
 unfold updF gk
 by_cases e:j = k
 · subst e; rw [if_pos rfl,if_pos (by omega)]
 · rw [if_neg e]
   by_cases e2:j < k
   · rw [if_pos e2,if_pos (by omega)]
   · rw [if_neg e2,if_neg (by omega)]
def agreeP (l:List Lnk) (ts:List Tun):Prop:=∀ (i:Nat) (x:Lnk),l[i]? = some x → ∀ k,k < 8 → x.Fr k = x.Cap - totT l ts i k
noncomputable def agreeB (l:List Lnk) (ts:List Tun):Bool:=@decide (agreeP l ts) (Classical.propDecidable _)
theorem agreeB_yes {l:List Lnk} {ts:List Tun} (h:agreeP l ts):agreeB l ts = true:=by unfold agreeB; simp [h]
theorem agreeB_no {l:List Lnk} {ts:List Tun} (h:¬ agreeP l ts):agreeB l ts = false:=by unfold agreeB; simp [h]
set_option maxHeartbeats 16000000 in
set_option maxRecDepth 10000 in
theorem t28 (l:List Lnk) (n:Nat) (hn:l.length = n) (hn2:n < 1000) (hC:∀ x ∈ l,0 ≤ x.Cap ∧ x.Cap ≤ 1099511627776) (ts:List Tun) (r:Nat) (hr:ts.length = r) (hr2:r < 1000) (hts:∀ t ∈ ts,okA l t) :
   CFun Tryz.prog 65 [.sl 13 (l.map encL) .sh,.sl 12 (ts.map encT) .sh] [] (.bool (agreeB l ts)) []:=by
 refine CFun.intro (tr:=[100017]) (fz:=[]) (n:=80) (rs:=[.tmp 4]) Tryz.func65 rfl (by kernel_rfl) rfl rfl mixed (by kernel_rfl) (by simp) (by simp) ?_
 have h35:=fun t (ht:t ∈ ts) H=>(t35 t.W (hts t ht).h0 (by have:=(hts t ht).h0; have:=(hts t ht).h7; unfold inI; omega)).up' H (by simp [noid,noid0]) (by simp [noid,noid0])
 have h41:=fun t (ht:t ∈ ts) H=>(t41 l n hn (by omega) t.P t.P.length rfl (by have:=(hts t ht).p; omega)).up' H rfl rfl
 by_cases hne:l = []
 · have hB:agreeB l ts = true:=agreeB_yes (by intro i x hx; rw [hne] at hx; simp at hx)
   rw [hB]
   have hus0:∀ t ∈ ts,usesL l t.P = []:=by
     intro t ht
     have:=(hts t ht).us
     cases hu:usesL l t.P with
     | nil=>rfl
     | cons u us =>
       rw [hu] at this
       have:=this u (by simp)
       rw [hne] at this
       simp at this
       omega
   have hn0:n = 0:=by rw [← hn,hne]; rfl
   subst hne
   simp [hr]
   refine LoopK.intro (tr:=[100017]) mixed (by kernel_rfl) (fun j:Nat=>[(0,.sl 13 [] .sh),(18,.sl 12 (ts.map encT) .sh),(19,.int .i64 r),(20,.int .i64 j)]) (fun _=>[]) (fun j=>j ≤ r) (fun j=>r - j) 0 (by omega) (by simp) ?_
   intro j j1
   by_cases hj:j < r
   · obtain ⟨t,ht⟩:∃ t,ts[j]? = some t:=⟨_,List.getElem?_eq_getElem (by omega)⟩
     have hm:=List.mem_of_getElem? ht
     have k35:=h35 t hm
     have k41:=h41 t hm
     rw [hus0 t hm] at k41
     have w1:IntKind.i64.wrap ((j:Int) + 1) = j + 1:=wrap_in (by omega)
     simp [hj,hr,ht,gE ht]
     refine ⟨_,_,.inl (by simpa using k35 _),by simp,?_⟩
     simp
     refine ⟨_,_,.inl (by simpa using k41 _),by simp,?_⟩
     simp
     refine LoopK.intro (tr:=[100017]) mixed (by kernel_rfl) (fun _:Nat=>[(0,.sl 13 [] .sh),(18,.sl 12 (ts.map encT) .sh),(19,.int .i64 r),(20,.int .i64 j),(31,.int .i64 0),(32,.int .i64 0)]) (fun _=>[]) (fun _=>True) (fun i=>i) 0 trivial (by simp) ?_
     intro _ _
     simp [w1]
     exact ⟨j + 1,by omega,by omega,by simp⟩
   · simp [hj]
     refine LoopK.intro (tr:=[100017]) mixed (by kernel_rfl) (fun _:Nat=>[(55,.int .i64 0),(56,.int .i64 0)]) (fun _=>[]) (fun _=>True) (fun i=>i) 0 trivial (by simp) ?_
     intro _ _
     simp
 have hn0:0 < n:=by rw [← hn]; exact List.length_pos_iff.2 hne
 have s1:64 * n ≤ 281474976710656:=by omega
 have s2:(n:Int) ≤ 9223372036854775807:=by omega
 have s0:(List.replicate n [AVal.int .i64 0,.int .i64 0,.int .i64 0,.int .i64 0,.int .i64 0,.int .i64 0,.int .i64 0,.int .i64 0]).flatten = rowC arC (List.replicate n zF):=by
   simp [rowC,List.flatMap_replicate,arC_zero]
 have hle:=fun k (S:List (Nat → Int))=>eAr.rowLe k S
 have hrl:=eAr.rowLen
 simp [hn,hr,s1,s2,hn0]
 rw [s0]
 refine LoopK.intro (tr:=[100017]) mixed (by kernel_rfl) (fun s:Nat × List (Nat → Int)=>[(0,.sl 13 (l.map encL) .sh),(5,.osl 0 0 n (some n) 8),(18,.sl 12 (ts.map encT) .sh),(19,.int .i64 r),(20,.int .i64 s.1)]) (fun s=>[rowC arC s.2])
   (fun s=>s.1 ≤ r ∧ s.2.length = n ∧ ∀ (i:Nat) (f:Nat → Int),s.2[i]? = some f → ∀ k,k < 8 → f k = totT l (ts.take s.1) i k) (fun s=>r - s.1) (0,List.replicate n zF) ?_ ?_ ?_
 · refine ⟨Nat.zero_le _,by simp,fun i f hf k hk=>?_⟩
   have:=List.mem_of_getElem? hf
   rw [List.mem_replicate] at this
   rw [this.2]
   simp [zF,totT]
 · simp [hle]
 rintro ⟨j,S⟩ ⟨j1,j2,j3⟩
 simp only at j1 j2 j3
 by_cases hj:j < r
 case pos =>
   obtain ⟨t,ht⟩:∃ t,ts[j]? = some t:=⟨_,List.getElem?_eq_getElem (by omega)⟩
   have hm:=List.mem_of_getElem? ht
   have k35:=h35 t hm
   have k41:=h41 t hm
   have okt:=hts t hm
   have w1:IntKind.i64.wrap ((j:Int) + 1) = j + 1:=wrap_in (by omega)
   have hsn:ts.take (j + 1) = ts.take j ++ [t]:=by rw [List.take_add_one,ht]; rfl
   have hone:=fun i k=>show oneT l t i k = takenF t.W.Hold t.W.Band k * (cntI i (usesL l t.P):Int) from rfl
   have hus:=okt.us
   have hul:(usesL l t.P).length ≤ 30:=by rw [usesL_len]; have:=okt.p; omega
   have htb:=taken_bd okt
   generalize usesL l t.P = us at *
   generalize takenF t.W.Hold t.W.Band = tk at *
   obtain ⟨u,hu⟩:∃ u,us.length = u:=⟨_,rfl⟩
   rw [hu] at hul
   simp [hj,hr,ht,gE ht]
   refine ⟨_,_,.inl (by simpa using k35 _),by simp,?_⟩
   simp
   refine ⟨_,_,.inl (by simpa using k41 _),by simp,?_⟩
   simp [hu]
   refine LoopK.intro (tr:=[100017]) mixed (by kernel_rfl) (fun s:Nat × List (Nat → Int)=>[(0,.sl 13 (l.map encL) .sh),(5,.osl 0 0 n (some n) 8),(8,.ptr 2 0),(18,.sl 12 (ts.map encT) .sh),(19,.int .i64 r),(20,.int .i64 j),(30,.sl 1 (us.map encI) .sh),(31,.int .i64 u),(32,.int .i64 s.1)]) (fun s=>[rowC arC s.2,[],arC tk])
     (fun s=>s.1 ≤ u ∧ s.2.length = n ∧ ∀ (i:Nat) (f:Nat → Int),s.2[i]? = some f → ∀ k,k < 8 → f k = totT l (ts.take j) i k + tk k * (cntI i (us.take s.1):Int)) (fun s=>u - s.1) (0,S) ?_ ?_ ?_
   · refine ⟨Nat.zero_le _,j2,fun i f hf k hk=>?_⟩
     rw [j3 i f hf k hk]
     simp [cntI]
   · simp [hle]
   rintro ⟨q,S'⟩ ⟨q1,q2,q3⟩
   simp only at q1 q2 q3
   by_cases hq:q < u
   case neg =>
     have:q = u:=by omega
     subst this
     simp [hq,w1]
     refine ⟨j + 1,S',⟨by omega,q2,fun i f hf k hk=>?_⟩,by omega,by simp [hle]⟩
     rw [q3 i f hf k hk,hsn,totT_snoc,hone,show us.take q = us from List.take_of_length_le (by omega)]
   obtain ⟨v,hv⟩:∃ v,us[q]? = some v:=⟨_,List.getElem?_eq_getElem (by omega)⟩
   obtain ⟨v0,v1⟩:=hus v (List.mem_of_getElem? hv)
   obtain ⟨i,rfl⟩:∃ i:Nat,v = i:=⟨v.toNat,by omega⟩
   have hi:i < n:=by omega
   obtain ⟨f,hf⟩:∃ f,S'[i]? = some f:=⟨_,List.getElem?_eq_getElem (by omega)⟩
   have w2:IntKind.i64.wrap ((q:Int) + 1) = q + 1:=wrap_in (by omega)
   have hct:=fun i'=>cntI_take hv i'
   simp [hq,hu,hv,gE hv]
   refine LoopK.intro (tr:=[100017]) mixed (by kernel_rfl) (fun k:Nat=>[(0,.sl 13 (l.map encL) .sh),(5,.osl 0 0 n (some n) 8),(8,.ptr 2 0),(10,.int .i64 i),(18,.sl 12 (ts.map encT) .sh),(19,.int .i64 r),(20,.int .i64 j),(30,.sl 1 (us.map encI) .sh),(31,.int .i64 u),(32,.int .i64 q),(36,.int .i64 k)]) (fun k=>[rowC arC (S'.set i (gk f tk k)),[],arC tk])
     (fun k=>k ≤ 8) (fun k=>8 - k) 0 ?_ ?_ ?_
   · omega
   · have hsame:S'.set i (gk f tk 0) = S':=by
       rw [gk_zero]
       apply List.ext_getElem?
       intro j'
       rw [List.getElem?_set]
       split
       · rename_i e; subst e; rw [if_pos (by omega),hf]
       · rfl
     simp [hsame,hle]
   intro k k1
   by_cases hk:k < 8
   case neg =>
     have:k = 8:=by omega
     subst this
     simp [w2]
     refine ⟨q + 1,S'.set i (gk f tk 8),⟨by omega,by rw [List.length_set]; exact q2,fun i' f' hf' k hk=>?_⟩,by omega,by simp [hle]⟩
     rw [List.getElem?_set] at hf'
     rw [hct i']
     by_cases e:i = i'
     · subst e
       rw [if_pos rfl,if_pos (by omega)] at hf'
       injection hf' with hf'
       subst hf'
       have:=q3 i f hf k hk
       rw [if_pos rfl]
       simp only [gk,if_pos hk,this]
       rw [Int.natCast_add,Int.mul_add]
       simp
       omega
     · rw [if_neg e] at hf'
       rw [if_neg (by omega),Nat.add_zero]
       exact q3 i' f' hf' k hk
   have hk':(k:Int) < 8:=by omega
   have hk7:k ≤ 7:=by omega
   have hz:(S'.set i (gk f tk k))[i]? = some (gk f tk k):=by rw [List.getElem?_set_self (by omega)]
   have hg:=rowA_get hz hk
   rw [gk_at] at hg
   have hset:=rowA_set hz hk (f k + tk k)
   rw [List.set_set,gk_upd] at hset
   have hrc:=hrl (S'.set i (gk f tk k))
   rw [List.length_set,q2] at hrc
   have ha:=arC_get tk hk
   have hfk:=q3 i f hf k hk
   have hb1:=totT_bd (l:=l) (ts:=ts.take j) (fun t ht=>hts t (List.mem_of_mem_take ht)) i k
   have hlt:(ts.take j).length ≤ 1000:=by rw [List.length_take]; omega
   have hb2:=mul_bd (htb k) (c:=cntI i (us.take q)) (by have:=cntI_le i (us.take q); rw [List.length_take] at this; omega)
   have hb3:=htb k
   have w3:IntKind.i64.wrap (f k + tk k) = f k + tk k:=wrap_in (by omega)
   have w4:IntKind.i64.wrap ((k:Int) + 1) = k + 1:=wrap_in (by omega)
   have b1:i * 8 + k < n * 8:=by omega
   have b2:i * 8 + k + 1 ≤ n * 8:=by omega
   simp [hk,hk',hk7,hi,hg,gE hg,ha,gE ha,hrc,b1,b2,w3]
   simp [hset,w4]
   exact ⟨k + 1,by omega,by omega,by simp [hle]⟩
 have:j = r:=by omega
 subst this
 rw [List.take_of_length_le (by omega)] at j3
 simp [hn]
 refine LoopK.intro (tr:=[100017]) mixed (by kernel_rfl) (fun i:Nat=>[(5,.osl 0 0 n (some n) 8),(54,.sl 13 (l.map encL) .sh),(55,.int .i64 n),(56,.int .i64 i)]) (fun _=>[rowC arC S])
   (fun i=>i ≤ n ∧ ∀ (i':Nat) (x:Lnk),i' < i → l[i']? = some x → ∀ k,k < 8 → x.Fr k = x.Cap - totT l ts i' k) (fun i=>n - i) 0 ?_ ?_ ?_
 · exact ⟨by omega,fun i' x hi'=>by omega⟩
 · simp [hle]
 rintro i ⟨i1,i2⟩
 by_cases hi:i < n
 case neg =>
   have hB:agreeB l ts = true:=agreeB_yes fun i' x hx=>i2 i' x (by have:=(List.getElem?_eq_some_iff.1 hx).1; omega) hx
   simp [hi,hB]
 obtain ⟨x,hx⟩:∃ x,l[i]? = some x:=⟨_,List.getElem?_eq_getElem (by omega)⟩
 obtain ⟨f,hf⟩:∃ f,S[i]? = some f:=⟨_,List.getElem?_eq_getElem (by omega)⟩
 have w1:IntKind.i64.wrap ((i:Int) + 1) = i + 1:=wrap_in (by omega)
 have hcx:=hC x (List.mem_of_getElem? hx)
 simp [hi,hn,hx,gE hx]
 refine LoopK.intro (tr:=[100017]) mixed (by kernel_rfl) (fun k:Nat=>[(5,.osl 0 0 n (some n) 8),(12,.int .i64 i),(13,.ptr 1 0),(54,.sl 13 (l.map encL) .sh),(55,.int .i64 n),(56,.int .i64 i),(61,.int .i64 k)]) (fun _=>[rowC arC S,cellsL x])
   (fun k=>k ≤ 8 ∧ ∀ k',k' < k → x.Fr k' = x.Cap - totT l ts i k') (fun k=>8 - k) 0 ?_ ?_ ?_
 · exact ⟨by omega,fun k' hk'=>by omega⟩
 · simp [hle]
 rintro k ⟨k1,k2⟩
 by_cases hk:k < 8
 case neg =>
   have:k = 8:=by omega
   subst this
   simp [w1]
   refine ⟨i + 1,⟨by omega,fun i' y hi' hy=>?_⟩,by omega,by simp [hle]⟩
   by_cases e:i' = i
   · subst e
     rw [hx] at hy
     injection hy with hy
     subst hy
     exact k2
   · exact i2 i' y (by omega) hy
 have hk':(k:Int) < 8:=by omega
 have hk7:k ≤ 7:=by omega
 have hg:=rowA_get hf hk
 have hgx:=cellsL_fr x hk
 have hrc:=hrl S
 rw [j2] at hrc
 have hfk:=j3 i f hf k hk
 have hb1:=totT_bd (l:=l) (ts:=ts) hts i k
 have w3:IntKind.i64.wrap (x.Cap - f k) = x.Cap - f k:=wrap_in (by omega)
 have w4:IntKind.i64.wrap ((k:Int) + 1) = k + 1:=wrap_in (by omega)
 have b1:i * 8 + k < n * 8:=by omega
 have b3:4 + k < 13:=by omega
 by_cases g:x.Fr k = x.Cap - f k
 · simp [hk,hk',hk7,hi,hg,gE hg,hgx,gE hgx,hrc,b1,b3,w3,g,w4]
   refine ⟨k + 1,⟨by omega,fun k' hk'=>?_⟩,by omega,by simp [hle]⟩
   by_cases e:k' = k
   · subst e; omega
   · exact k2 k' (by omega)
 · have hB:agreeB l ts = false:=agreeB_no fun h=>g (by rw [h i x hx k hk,hfk])
   simp [hk,hk',hk7,hi,hg,gE hg,hgx,gE hgx,hrc,b1,b3,w3,g,hB]
end Go.Proofs.YtpmmnnaaoideeaaGreat

/- The reference's agree, by the program. -/
namespace Go.Proofs.YtpmmnnaaoideeaaGreat
open Go Go.Am Go.Wk
set_option maxHeartbeats 16000000 in
set_option maxRecDepth 10000 in
theorem t32 (l:List Lnk) (n:Nat) (hn:l.length = n) (hn2:n < 1000) (hC:∀ x ∈ l,0 ≤ x.Cap ∧ x.Cap ≤ 1099511627776) (ts:List Tun) (r:Nat) (hr:ts.length = r) (hr2:r < 1000) (hts:∀ t ∈ ts,okA l t) :
   CFun Tryz.prog 25 [.sl 13 (l.map encL) .sh,.sl 12 (ts.map encT) .sh] [] (.bool (agreeB l ts)) []:=by
 refine CFun.intro (tr:=[]) (fz:=[]) (n:=54) (rs:=[.tmp 4]) Tryz.func25 rfl (by kernel_rfl) rfl rfl mixed (by kernel_rfl) (by simp) (by simp) ?_
 have h39:=fun t (ht:t ∈ ts) i H=>(t39 l n hn (by omega) t.P t.P.length rfl (by have:=(hts t ht).p; omega) i).up' H rfl rfl
 simp [hn]
 refine LoopK.intro (tr:=[]) mixed (by kernel_rfl) (fun i:Nat=>[(0,.sl 13 (l.map encL) .sh),(1,.sl 12 (ts.map encT) .sh),(11,.sl 13 (l.map encL) .sh),(12,.int .i64 n),(13,.int .i64 i)]) (fun _=>[])
   (fun i=>i ≤ n ∧ ∀ (i':Nat) (x:Lnk),i' < i → l[i']? = some x → ∀ k,k < 8 → x.Fr k = x.Cap - totT l ts i' k) (fun i=>n - i) 0 ?_ ?_ ?_
 · exact ⟨by omega,fun i' x hi'=>by omega⟩
 · simp
 rintro i ⟨i1,i2⟩
 by_cases hi:i < n
 case neg =>
   have hB:agreeB l ts = true:=agreeB_yes fun i' x hx=>i2 i' x (by have:=(List.getElem?_eq_some_iff.1 hx).1; omega) hx
   simp [hi,hB]
 obtain ⟨x,hx⟩:∃ x,l[i]? = some x:=⟨_,List.getElem?_eq_getElem (by omega)⟩
 have w1:IntKind.i64.wrap ((i:Int) + 1) = i + 1:=wrap_in (by omega)
 have hcx:=hC x (List.mem_of_getElem? hx)
 simp [hi,hn,hx,gE hx]
 refine LoopK.intro (tr:=[]) mixed (by kernel_rfl) (fun k:Nat=>[(0,.sl 13 (l.map encL) .sh),(1,.sl 12 (ts.map encT) .sh),(5,.int .i64 i),(6,.ptr 0 0),(7,.int .i64 k),(11,.sl 13 (l.map encL) .sh),(12,.int .i64 n),(13,.int .i64 i)]) (fun _=>[cellsL x])
   (fun k=>k ≤ 8 ∧ ∀ k',k' < k → x.Fr k' = x.Cap - totT l ts i k') (fun k=>8 - k) 0 ?_ ?_ ?_
 · exact ⟨by omega,fun k' hk'=>by omega⟩
 · simp
 rintro k ⟨k1,k2⟩
 by_cases hk:k < 8
 case neg =>
   have:k = 8:=by omega
   subst this
   simp [w1]
   refine ⟨i + 1,⟨by omega,fun i' y hi' hy=>?_⟩,by omega,by simp⟩
   by_cases e:i' = i
   · subst e
     rw [hx] at hy
     injection hy with hy
     subst hy
     exact k2
   · exact i2 i' y (by omega) hy
 have hk':(k:Int) < 8:=by omega
 have hk7:k ≤ 7:=by omega
 have hgx:=cellsL_fr x hk
 have w4:IntKind.i64.wrap ((k:Int) + 1) = k + 1:=wrap_in (by omega)
 have b3:4 + k < 13:=by omega
 simp [hk,hk',hk7,hr]
 refine LoopK.intro (tr:=[]) mixed (by kernel_rfl) (fun j:Nat=>[(0,.sl 13 (l.map encL) .sh),(1,.sl 12 (ts.map encT) .sh),(5,.int .i64 i),(6,.ptr 0 0),(7,.int .i64 k),(8,.int .i64 (x.Cap - totT l (ts.take j) i k)),(11,.sl 13 (l.map encL) .sh),(12,.int .i64 n),(13,.int .i64 i),(24,.sl 12 (ts.map encT) .sh),(25,.int .i64 r),(26,.int .i64 j)]) (fun _=>[cellsL x])
   (fun j=>j ≤ r) (fun j=>r - j) 0 (by omega) ?_ ?_
 · simp [totT]
 intro j j1
 by_cases hj:j < r
 case neg =>
   have:j = r:=by omega
   subst this
   have he:ts.take j = ts:=List.take_of_length_le (by omega)
   rw [he]
   by_cases g:x.Cap - totT l ts i k = x.Fr k
   · simp [hk,hk',hk7,hgx,gE hgx,b3,g,w4]
     refine ⟨k + 1,⟨by omega,fun k' hk'=>?_⟩,by omega,by simp⟩
     by_cases e:k' = k
     · subst e; omega
     · exact k2 k' (by omega)
   · have hB:agreeB l ts = false:=agreeB_no fun h=>g (h i x hx k hk).symm
     simp [hk,hk',hk7,hgx,gE hgx,b3,g,hB]
 obtain ⟨t,ht⟩:∃ t,ts[j]? = some t:=⟨_,List.getElem?_eq_getElem (by omega)⟩
 have hm:=List.mem_of_getElem? ht
 have k39:=h39 t hm i
 have okt:=hts t hm
 have w2:IntKind.i64.wrap ((j:Int) + 1) = j + 1:=wrap_in (by omega)
 have hsn:totT l (ts.take (j + 1)) i k = totT l (ts.take j) i k + oneT l t i k:=by rw [show ts.take (j + 1) = ts.take j ++ [t] by rw [List.take_add_one,ht]; rfl,totT_snoc]
 have hb1:=totT_bd (l:=l) (ts:=ts.take j) (fun t ht=>hts t (List.mem_of_mem_take ht)) i k
 have hlt:(ts.take j).length ≤ 1000:=by rw [List.length_take]; omega
 have hb2:=oneT_bd okt i k
 have hone:oneT l t i k = takenF t.W.Hold t.W.Band k * (cntI i (usesL l t.P):Int):=rfl
 by_cases g:t.W.Hold ≤ k
 · have e1:takenF t.W.Hold t.W.Band k = t.W.Band:=by unfold takenF; rw [if_pos g]
   rw [e1,Int.mul_comm] at hone
   generalize cntI i (usesL l t.P) = ct at *
   have w5:IntKind.i64.wrap ((ct:Int) * t.W.Band) = (ct:Int) * t.W.Band:=wrap_in (by rw [← hone]; omega)
   have w6:IntKind.i64.wrap (x.Cap - totT l (ts.take j) i k - (ct:Int) * t.W.Band) = x.Cap - totT l (ts.take j) i k - (ct:Int) * t.W.Band:=wrap_in (by rw [← hone]; omega)
   simp [hj,hr,ht,gE ht,g]
   refine ⟨_,_,.inl (by simpa [cargs] using k39 _),by simp [cargs],?_⟩
   simp [w2,w5,w6]
   refine ⟨j + 1,by omega,by omega,?_⟩
   rw [hsn,hone]
   simp [Int.sub_sub]
 · have e1:takenF t.W.Hold t.W.Band k = 0:=by unfold takenF; rw [if_neg g]
   rw [e1,Int.zero_mul] at hone
   simp [hj,hr,ht,gE ht,g,w2]
   refine ⟨j + 1,by omega,by omega,?_⟩
   rw [hsn,hone,Int.add_zero]
   simp
end Go.Proofs.YtpmmnnaaoideeaaGreat
