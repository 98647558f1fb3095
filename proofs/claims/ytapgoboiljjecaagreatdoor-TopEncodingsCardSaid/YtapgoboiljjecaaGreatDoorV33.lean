/- The law. -/
import Derived.Test.YtapgoboiljjecaaGreatDoorV31
set_option linter.unusedSimpArgs false
set_option linter.unusedVariables false
namespace Go.Proofs.YtapgoboiljjecaaGreatDoor
open Go Go.Am
set_option linter.unusedSimpArgs false
set_option maxHeartbeats 2000000 in
set_option maxRecDepth 10000 in
theorem t7 (l:List Int) (n:Nat) (hn:l.length = n) (hlen:n < 1099511627776):CFun Tryz.prog 7 [encBs l,encBs l] [] (.bool true) []:=by
 refine CFun.intro (tr:=[]) (fz:=[]) (n:=26) (rs:=[.tmp 4]) Tryz.func7 rfl (by kernel_rfl) rfl rfl mixed (by kernel_rfl) (by simp) (by simp) ?_
 simp [hn]
 refine LoopK.intro (tr:=[]) mixed (by kernel_rfl) (fun i:Nat=>[(0,encBs l),(1,encBs l),(12,.int .i64 n),(13,.int .i64 i)]) (fun _=>[]) (fun i=>i ≤ n) (fun i=>n - i) 0 ?_ ?_ ?_
 · simp
 · simp
 · rintro i h1
   by_cases hi:i < n
   · obtain ⟨y,hy,hd⟩:=get_drop (l:=l) (i:=i) (by omega)
     obtain ⟨_,gy⟩:=List.getElem?_eq_some_iff.1 hy
     have w1:IntKind.i64.wrap ((i:Int) + 1) = i + 1:=wrap_in (by omega)
     simp [hi,hy,gy,hn,w1]
     exact ⟨i + 1,by omega,by omega,by simp⟩
   · simp [hi]
theorem lab1:labB ⟨1,167772160,8,17⟩ = [1,8,10,0,0,0,0,0,0,17]:=by decide +kernel
theorem dec1:decLb [1,8,10,0,0,0,0,0,0,17] = (⟨1,167772160,8,17⟩,0):=by
 have h1:labR [1,8,10,0,0,0,0,0,0,17] = ⟨1,167772160,8,17⟩:=rfl
 have h2:chkLb ⟨1,167772160,8,17⟩ = 0:=by decide +kernel
 unfold decLb
 rw [h1,h2]
 rfl
set_option maxHeartbeats 2000000 in
set_option maxRecDepth 10000 in
theorem t4:CFun Tryz.prog 4 [] [] (.bool true) []:=by
 refine CFun.intro (tr:=[]) (fz:=[]) (n:=38) (rs:=[.tmp 0]) Tryz.func4 rfl (by kernel_rfl) rfl rfl mixed (by kernel_rfl) (by simp) (by simp) ?_
 have h15:=fun H=>(t15 ⟨1,167772160,8,17⟩ (by simp) (by simp) (by unfold in32; simp) (by unfold in32; simp) (by decide +kernel)).up' H rfl rfl
 have hb:isB [1,8,10,0,0,0,0,0,0,17]:=by
   intro x hx
   simp at hx
   omega
 have h14:=fun H=>(t14 [1,8,10,0,0,0,0,0,0,17] hb (by simp)).up' H rfl rfl
 rw [lab1] at h15
 rw [dec1] at h14
 simp
 refine ⟨_,_,.inl (by simpa using h15 _),by simp,?_⟩
 simp
 refine ⟨_,_,.inl (by simpa using h14 _),by simp,?_⟩
 simp
end Go.Proofs.YtapgoboiljjecaaGreatDoor

/- The law, walked. -/
namespace Go.Proofs.YtapgoboiljjecaaGreatDoor
open Go Go.Am
set_option linter.unusedSimpArgs false
set_option maxHeartbeats 8000000 in
set_option maxRecDepth 20000 in
theorem t3 (b:List Int) (hb:isB b) (hlen:b.length ≤ 140737488355327):CFun Tryz.prog 3 [encBs b] [] (.bool true) []:=by
 refine CFun.introS (fz:=[]) (n:=156) (rs:=[.tmp 2]) Tryz.func3 rfl (by kernel_rfl) rfl rfl (by simp) (by simp) ?_
 have h4:=fun H=>t4.up' H rfl rfl
 obtain ⟨m,hm⟩:∃ m,b.length = m:=⟨_,rfl⟩
 have htk:(b.map enc8).take m = b.map enc8:=List.take_of_length_le (by simp [hm])
 refine SWp_cut (tr:=[]) mixed (by kernel_rfl) [(0,encBs b)] [] (by simp) ?_
 by_cases g:600 < m
 · have g':(600:Int) < m:=by omega
   refine SWp_of (tr:=[]) mixed (by kernel_rfl) ?_
   simp [hm,g,g']
   refine ⟨_,_,.inl (h4 _),by simp,?_⟩
   simp
 have g':¬ (600:Int) < m:=by omega
 refine SWp_cut (tr:=[]) mixed (by kernel_rfl) [(0,encBs b)] [] (by simp [hm,g,g']) ?_
 have h7:=fun H=>(t7 b m hm (by omega)).up' H rfl rfl
 have h7k:=fun k (h:k ≤ m) H=>(t7 (b.take k) k (by simp; omega) (by omega)).up' H rfl rfl
 obtain ⟨d,hd⟩:∃ d,decP b = d:=⟨_,rfl⟩
 have h5:=fun H=>(f50 b hb hlen).up' H rfl rfl
 rw [hd] at h5
 refine SWp_cut (tr:=[]) mixed (by kernel_rfl) [(0,encBs b),(3,.ptr 0 0),(4,.int .i64 d.2)] [cellsPk d.1] ?_ ?_
 · simp
   refine ⟨_,_,.inl (by simpa using h5 _),by simp,?_⟩
   simp
 refine SWp_cut (tr:=[]) mixed (by kernel_rfl) [(0,encBs b)] [] ?_ ?_
 · by_cases e:d.2 = 0
   · obtain ⟨o1,o2,_⟩:=decP_ok hb (by rw [hd]; exact e)
     have ok:=decP_okPk hb (by rw [hd]; exact e)
     rw [hd] at o1 o2 ok
     have h6:=fun H=>(f19 d.1 ok).up' H rfl rfl
     unfold encQ at h6
     rw [if_neg (by simp [o1]),o2] at h6
     simp [e]
     refine ⟨_,_,.inl (by simpa using h6 _),by simp,?_⟩
     simp
     refine ⟨_,_,.inl (by simpa using h7 _),by simp,?_⟩
     simp
   · simp [e]
 clear h5 hd d
 obtain ⟨d,hd⟩:∃ d,decL b = d:=⟨_,rfl⟩
 have h8:=fun H=>(c38 b hb (by omega)).up' H rfl rfl
 rw [hd] at h8
 refine SWp_cut (tr:=[]) mixed (by kernel_rfl) [(0,encBs b),(4,.int .i64 d.2.2),(7,.ptr 0 0),(8,.int .i64 d.2.1)] [cellsA d.1] ?_ ?_
 · simp
   refine ⟨_,_,.inl (by simpa using h8 _),by simp,?_⟩
   simp
 refine SWp_cut (tr:=[]) mixed (by kernel_rfl) [(0,encBs b)] [] ?_ ?_
 · by_cases e:d.2.2 = 0
   · have hdec:encL (decL b).1 = (b.take (decL b).2.1,0) ∧ (decL b).2.1 ≤ b.length:=by
       obtain ⟨_,q2,_,_,q5,q6,q7⟩:=decL_ok hb (by rw [hd]; exact e)
       have:=bytesA_dec hb (by rw [hd]; exact e)
       rw [q7]
       simp only
       rw [encL_sealed q5 q6,this]
       exact ⟨rfl,q2⟩
     have h9:=fun H=>(c21 (decL b).1).up' H rfl rfl
     rw [hd] at hdec h9
     obtain ⟨g1,g2⟩:=hdec
     rw [g1] at h9
     rw [hm] at g2
     have h7':=h7k d.2.1 g2
     have k1:(0:Int) ≤ d.2.1:=by omega
     have k2:(d.2.1:Int) ≤ m:=by omega
     have k3:¬ (m:Int) < d.2.1:=by omega
     have k4:¬ (d.2.1:Int) < 0:=by omega
     have k5:¬ m < d.2.1:=by omega
     simp [e]
     refine ⟨_,_,.inl (by simpa using h9 _),by simp,?_⟩
     simp [hm,k1,k2,k3,k4,k5,g2]
     refine ⟨_,_,.inl (by simpa using h7' _),by simp,?_⟩
     simp
   · simp [e]
 clear h8 hd d
 obtain ⟨d,hd⟩:∃ d,decM b = d:=⟨_,rfl⟩
 have h10:=fun H=>(t10 b hb (by omega)).up' H rfl rfl
 rw [hd] at h10
 refine SWp_cut (tr:=[]) mixed (by kernel_rfl) [(0,encBs b),(4,.int .i64 d.2.2.2),(11,.ptr 0 0),(12,.int .i64 d.2.1)] [cellsM d.1] ?_ ?_
 · simp
   refine ⟨_,_,.inl (by simpa using h10 _),by simp,?_⟩
   simp
 refine SWp_cut (tr:=[]) mixed (by kernel_rfl) [(0,encBs b)] [] ?_ ?_
 · by_cases e:d.2.2.2 = 0
   · obtain ⟨q1,g2,q3⟩:=decM_ok hb (by omega) (by rw [hd]; exact e)
     rw [hd] at q1 g2 q3
     have h11:=fun H=>(t11 d.1 q1).up' H rfl rfl
     rw [q3] at h11
     rw [hm] at g2
     have h7':=h7k d.2.1 g2
     have k1:(0:Int) ≤ d.2.1:=by omega
     have k2:(d.2.1:Int) ≤ m:=by omega
     have k3:¬ (m:Int) < d.2.1:=by omega
     have k4:¬ (d.2.1:Int) < 0:=by omega
     have k5:¬ m < d.2.1:=by omega
     simp [e]
     refine ⟨_,_,.inl (by simpa using h11 _),by simp,?_⟩
     simp [hm,k1,k2,k3,k4,k5,g2]
     refine ⟨_,_,.inl (by simpa using h7' _),by simp,?_⟩
     simp
   · simp [e]
 clear h10 hd d
 obtain ⟨d,hd⟩:∃ d,decAt b = d:=⟨_,rfl⟩
 have h12:=fun H=>(t12 b hb (by omega)).up' H rfl rfl
 rw [hd] at h12
 refine SWp_cut (tr:=[]) mixed (by kernel_rfl) [(0,encBs b),(4,.int .i64 d.2),(16,.ptr 0 0)] [cellsAt d.1] ?_ ?_
 · simp
   refine ⟨_,_,.inl (by simpa using h12 _),by simp,?_⟩
   simp
 refine SWp_cut (tr:=[]) mixed (by kernel_rfl) [(0,encBs b)] [] ?_ ?_
 · by_cases e:d.2 = 0
   · obtain ⟨q1,q2,q3,_⟩:=decAt_ok hb (by rw [hd]; exact e)
     rw [hd] at q1 q2 q3
     have h13:=fun H=>(t13 d.1 q1 q2 (by rw [q3]; omega)).up' H rfl rfl
     rw [q3] at h13
     simp [e]
     refine ⟨_,_,.inl (by simpa using h13 _),by simp,?_⟩
     simp
     refine ⟨_,_,.inl (by simpa using h7 _),by simp,?_⟩
     simp
   · simp [e]
 clear h12 hd d
 obtain ⟨d,hd⟩:∃ d,decLb b = d:=⟨_,rfl⟩
 have h14:=fun H=>(t14 b hb (by omega)).up' H rfl rfl
 rw [hd] at h14
 refine SWp_cut (tr:=[]) mixed (by kernel_rfl) [(0,encBs b),(4,.int .i64 d.2),(19,.ptr 0 0)] [[.int .i64 d.1.Kind,.int .u32 d.1.Addr,.int .i64 d.1.Len,.int .i64 d.1.Label]] ?_ ?_
 · simp
   refine ⟨_,_,.inl (by simpa using h14 _),by simp,?_⟩
   simp
 by_cases e:d.2 = 0
 case neg =>
   refine SWp_of (tr:=[]) mixed (by kernel_rfl) ?_
   simp [e]
   refine ⟨_,_,.inl (h4 _),by simp,?_⟩
   simp
 obtain ⟨q1,q2,q3,q4,q5⟩:=decLb_ok hb (by rw [hd]; exact e)
 have i2:=numAt_in hb 2 4
 have i6:=numAt_in hb 6 4
 have h15:=fun H=>(t15 (labR b) q4 q5 (by unfold in32 labR; simp only; omega) (by unfold in32 labR; simp only; split <;> omega) q2).up' H rfl rfl
 rw [q3] at h15
 rw [hd] at q1
 rw [q1]
 generalize labR b = r at h15
 refine SWp_of (tr:=[]) mixed (by kernel_rfl) ?_
 simp
 refine ⟨_,_,.inl (by simpa using h15 _),by simp,?_⟩
 simp
 refine ⟨_,_,.inl (by simpa using h7 _),by simp,?_⟩
 simp
 refine ⟨_,_,.inl (by simpa using h4 _),by simp,?_⟩
 simp
end Go.Proofs.YtapgoboiljjecaaGreatDoor
