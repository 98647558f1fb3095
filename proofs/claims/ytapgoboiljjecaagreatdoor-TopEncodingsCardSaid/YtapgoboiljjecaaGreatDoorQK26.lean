/- Label messages, prefixes and capabilities as texts (no program). -/
import Derived.Test.YtapgoboiljjecaaGreatDoorVP3
set_option linter.unusedSimpArgs false
set_option linter.unusedVariables false
namespace Go.Proofs.YtapgoboiljjecaaGreatDoor
open Go Go.Am
structure Lab where
  Kind:Int
  Addr:Int
  Len:Int
  Label:Int
def lab0:Lab:=⟨0,0,0,0⟩
def chkLb (m:Lab):Int :=
 if m.Kind < 1 ∨ 4 < m.Kind then 15 else if validP m.Addr m.Len = false then 1 else if m.Kind = 4 ∧ m.Label ≠ 0 then 5
 else if m.Kind ≠ 4 ∧ m.Label ≠ 3 ∧ (m.Label < 16 ∨ 1048575 < m.Label) then 5 else 0
def sizeL (k:Int):Int:=if k = 4 then 6 else 10
def labB (m:Lab):List Int:=[m.Kind,m.Len] ++ numB 4 m.Addr ++ (if m.Kind = 4 then [] else numB 4 m.Label)
def labR (b:List Int):Lab:=⟨b.getD 0 0,numAt b 2 4,b.getD 1 0,if b.getD 0 0 = 4 then 0 else numAt b 6 4⟩
def decLb (b:List Int):Lab × Int :=
 if b.length = 0 then (lab0,3) else if b.getD 0 0 < 1 ∨ 4 < b.getD 0 0 then (lab0,15) else if (b.length:Int) < sizeL (b.getD 0 0) then (lab0,3)
 else if sizeL (b.getD 0 0) < b.length then (lab0,2) else if chkLb (labR b) ≠ 0 then (lab0,chkLb (labR b)) else (labR b,0)
theorem decLb_ok {b:List Int} (hb:isB b) (h:(decLb b).2 = 0):decLb b = (labR b,0) ∧ chkLb (labR b) = 0 ∧ labB (labR b) = b ∧ (0 ≤ b.getD 0 0 ∧ b.getD 0 0 ≤ 255) ∧ (0 ≤ b.getD 1 0 ∧ b.getD 1 0 ≤ 255):=by
 have e1:=getD_in hb 0
 have e2:=getD_in hb 1
 unfold decLb at h ⊢
 by_cases g1:b.length = 0
 · rw [if_pos g1] at h; simp at h
 rw [if_neg g1] at h ⊢
 by_cases g2:b.getD 0 0 < 1 ∨ 4 < b.getD 0 0
 · rw [if_pos g2] at h; simp at h
 rw [if_neg g2] at h ⊢
 by_cases g3:(b.length:Int) < sizeL (b.getD 0 0)
 · rw [if_pos g3] at h; simp at h
 rw [if_neg g3] at h ⊢
 by_cases g4:sizeL (b.getD 0 0) < b.length
 · rw [if_pos g4] at h; simp at h
 rw [if_neg g4] at h ⊢
 by_cases g5:chkLb (labR b) = 0
 case neg=>rw [if_pos g5] at h; exact (g5 h).elim
 rw [if_neg (by simp [g5])]
 refine ⟨rfl,g5,?_,e1,e2⟩
 unfold labB labR
 simp only
 by_cases hk:b.getD 0 0 = 4
 · have hl:b.length = 6:=by unfold sizeL at g3 g4; rw [if_pos hk] at g3 g4; omega
   rw [if_pos hk,List.append_nil,numB_numAt hb 2 4 (by omega),List.take_of_length_le (by simp; omega)]
   exact (two_bytes (by omega)).symm
 · have hl:b.length = 10:=by unfold sizeL at g3 g4; rw [if_neg hk] at g3 g4; omega
   rw [if_neg hk,if_neg hk,numB_numAt hb 2 4 (by omega),numB_numAt hb 6 4 (by omega),List.append_assoc,List.take_of_length_le (show (b.drop 6).length ≤ 4 by simp; omega)]
   rw [show b.drop 6 = (b.drop 2).drop 4 by rw [List.drop_drop],List.take_append_drop]
   exact (two_bytes (by omega)).symm
structure Pre where
  A:Int
  N:Int
def preB (p:Pre):List Int:=p.N :: (numB 4 p.A).take ((p.N + 7) / 8).toNat
def presB (l:List Pre):List Int:=(l.map preB).flatten
theorem presB_app (l m:List Pre):presB (l ++ m) = presB l ++ presB m:=by simp [presB]
def preR (b:List Int):Pre:=⟨numAt b 1 ((b.getD 0 0 + 7) / 8).toNat * 2 ^ (32 - 8 * ((b.getD 0 0 + 7) / 8).toNat),b.getD 0 0⟩
def rdPres (b:List Int) (l:List Pre):List Int × List Pre × Bool :=
 if b.length = 0 then (b,l,true)
 else if 32 < b.getD 0 0 ∨ b.length < 1 + ((b.getD 0 0 + 7) / 8).toNat then (b.drop 1,l,false)
 else if validP (preR b).A (preR b).N = false then (b.drop (1 + ((b.getD 0 0 + 7) / 8).toNat),l,false)
 else rdPres (b.drop (1 + ((b.getD 0 0 + 7) / 8).toNat)) (l ++ [preR b])
termination_by b.length
decreasing_by simp only [List.length_drop]; omega
theorem numAt_eqs {b c:List Int} (at_:Nat):∀ n,(∀ i,i < n → b.getD (at_ + i) 0 = c.getD (at_ + i) 0) → numAt b at_ n = numAt c at_ n:=by
 intro n
 induction n with
 | zero=>intro _; rfl
 | succ n ih =>
   intro h
   simp only [numAt]
   rw [ih (fun i hi=>h i (by omega)),h n (by omega)]
theorem numAt_pad {b:List Int} (at_:Nat):∀ s,numAt (b.take (at_ + s) ++ List.replicate 4 0) at_ s = numAt b at_ s
 | 0=>rfl
 | s + 1=>by
   by_cases h:at_ + s < b.length
   · have e1:=numAt_eqs (b:=b.take (at_ + (s + 1)) ++ List.replicate 4 0) (c:=b) at_ (s + 1) (fun i hi=>by
       simp only [List.getD_eq_getElem?_getD]
       rw [List.getElem?_append_left (by simp; omega),List.getElem?_take,if_pos (by omega)])
     exact e1
   · have e1:=numAt_eqs (b:=b.take (at_ + (s + 1)) ++ List.replicate 4 0) (c:=b) at_ (s + 1) (fun i hi=>by
       rw [List.take_of_length_le (by omega)]
       simp only [List.getD_eq_getElem?_getD]
       by_cases hl:at_ + i < b.length
       · rw [List.getElem?_append_left hl]
       · rw [List.getElem?_append_right (by omega),List.getElem?_eq_none (l:=b) (by omega),List.getElem?_replicate]
         split <;> rfl)
     exact e1
theorem preR_take {b:List Int} (hb:isB b) {s:Nat} (hs:s ≤ 4) (hl:1 + s ≤ b.length):(numB 4 (numAt b 1 s * 2 ^ (32 - 8 * s))).take s = (b.drop 1).take s:=by
 have hc:isB (b.take (1 + s) ++ List.replicate 4 0):=isB_app (isB_take hb _) (fun x hx=>by rw [(List.mem_replicate.1 hx).2]; omega)
 have hlen:(b.take (1 + s)).length = 1 + s:=by simp only [List.length_take]; omega
 have z:∀ k,k < 4 → (b.take (1 + s) ++ List.replicate 4 0).getD (1 + s + k) 0 = 0:=fun k hk=>by
   rw [List.getD_eq_getElem?_getD,List.getElem?_append_right (by omega),List.getElem?_replicate]
   split <;> rfl
 have e:numAt (b.take (1 + s) ++ List.replicate 4 0) 1 4 = numAt b 1 s * 2 ^ (32 - 8 * s):=by
   have e0:=numAt_pad (b:=b) 1 s
   have h01234:s = 0 ∨ s = 1 ∨ s = 2 ∨ s = 3 ∨ s = 4:=by omega
   generalize b.take (1 + s) ++ List.replicate 4 0 = c at e0 z
   rcases h01234 with rfl | rfl | rfl | rfl | rfl
   · have:=z 0 (by omega); have:=z 1 (by omega); have:=z 2 (by omega); have:=z 3 (by omega)
     simp only [numAt,Nat.reduceAdd,Nat.reduceMul,Nat.reduceSub] at *
     omega
   · have:=z 0 (by omega); have:=z 1 (by omega); have:=z 2 (by omega)
     simp only [numAt,Nat.reduceAdd,Nat.reduceMul,Nat.reduceSub] at *
     omega
   · have:=z 0 (by omega); have:=z 1 (by omega)
     simp only [numAt,Nat.reduceAdd,Nat.reduceMul,Nat.reduceSub] at *
     omega
   · have:=z 0 (by omega)
     simp only [numAt,Nat.reduceAdd,Nat.reduceMul,Nat.reduceSub] at *
     omega
   · rw [← e0]; simp
 rw [← e,numB_numAt hc 1 4 (by simp only [List.length_append,hlen,List.length_replicate]; omega),List.take_take,Nat.min_eq_left hs,List.drop_append_of_le_length (by omega),List.take_append_of_le_length (by simp only [List.length_drop]; omega)]
 rw [List.drop_take,Nat.add_sub_cancel_left,List.take_take,Nat.min_self]
def okPre (p:Pre):Prop:=in32 p.A ∧ 0 ≤ p.N ∧ p.N ≤ 32
theorem preR_ok {b:List Int} (hb:isB b) (h:¬ (32 < b.getD 0 0 ∨ b.length < 1 + ((b.getD 0 0 + 7) / 8).toNat)) (h0:b.length ≠ 0) :
   preB (preR b) ++ b.drop (1 + ((b.getD 0 0 + 7) / 8).toNat) = b ∧ okPre (preR b):=by
 have hx:=getD_in hb 0
 have e:b = [b.getD 0 0] ++ b.drop 1:=by
   match b,h0 with
   | x :: b,_=>rfl
 generalize hs:((b.getD 0 0 + 7) / 8).toNat = s at *
 have hs4:s ≤ 4:=by omega
 have ht:=preR_take hb hs4 (by omega)
 constructor
 · unfold preB preR
   simp only [hs]
   rw [ht,← List.drop_drop]
   show [b.getD 0 0] ++ (b.drop 1).take s ++ (b.drop 1).drop s = b
   rw [List.append_assoc,List.take_append_drop]
   exact e.symm
 · unfold okPre preR in32
   simp only [hs]
   have hn:=numAt_in hb 1 s
   have h01234:s = 0 ∨ s = 1 ∨ s = 2 ∨ s = 3 ∨ s = 4:=by omega
   refine ⟨?_,by omega,by omega⟩
   rcases h01234 with rfl | rfl | rfl | rfl | rfl <;> simp only [Nat.reduceMul,Nat.reduceSub] at hn ⊢ <;> omega
theorem rdPres_ok:∀ (n:Nat) (b:List Int) (l:List Pre),b.length ≤ n → isB b → (∀ p ∈ l,okPre p) → (rdPres b l).2.2 = true →
   presB (rdPres b l).2.1 = presB l ++ b ∧ (∀ p ∈ (rdPres b l).2.1,okPre p) ∧ (rdPres b l).2.1.length ≤ l.length + b.length ∧ (b ≠ [] ∨ l ≠ [] → (rdPres b l).2.1 ≠ []):=by
 intro n
 induction n with
 | zero =>
   intro b l hn hb hl h
   have e:b = []:=List.eq_nil_of_length_eq_zero (by omega)
   subst e
   rw [rdPres,if_pos (show ([]:List Int).length = 0 from rfl)]
   exact ⟨by simp,hl,by simp,fun q=>q.resolve_left (by simp)⟩
 | succ n ih =>
   intro b l hn hb hl h
   by_cases h0:b.length = 0
   · have e:b = []:=List.eq_nil_of_length_eq_zero h0
     subst e
     rw [rdPres,if_pos (show ([]:List Int).length = 0 from rfl)]
     exact ⟨by simp,hl,by simp,fun q=>q.resolve_left (by simp)⟩
   rw [rdPres,if_neg h0] at h ⊢
   by_cases h1:32 < b.getD 0 0 ∨ b.length < 1 + ((b.getD 0 0 + 7) / 8).toNat
   · rw [if_pos h1] at h; simp at h
   rw [if_neg h1] at h ⊢
   by_cases h2:validP (preR b).A (preR b).N = false
   · rw [if_pos h2] at h; simp at h
   rw [if_neg h2] at h ⊢
   obtain ⟨q1,q2⟩:=preR_ok hb h1 h0
   obtain ⟨r1,r2,r3,r4⟩:=ih _ (l ++ [preR b]) (by simp only [List.length_drop]; omega) (isB_drop hb _) (fun p hp=>by
     rcases List.mem_append.1 hp with hp | hp
     · exact hl p hp
     · simp only [List.mem_singleton] at hp; subst hp; exact q2) h
   refine ⟨?_,r2,?_,fun _=>r4 (.inr (by simp))⟩
   · rw [r1,presB_app,List.append_assoc]
     congr 1
     simp only [presB,List.map_cons,List.map_nil,List.flatten_cons,List.flatten_nil,List.append_nil]
     exact q1
   · simp only [List.length_append,List.length_drop,List.length_cons,List.length_nil] at r3
     omega
structure Cap where
  Code:Int
  Val:List Int
def capB (c:Cap):List Int:=[c.Code,(c.Val.length:Int)] ++ c.Val
def capsB (l:List Cap):List Int:=(l.map capB).flatten
theorem capsB_app (l m:List Cap):capsB (l ++ m) = capsB l ++ capsB m:=by simp [capsB]
def okCap (c:Cap):Prop:=(0 ≤ c.Code ∧ c.Code ≤ 255) ∧ isB c.Val ∧ c.Val.length ≤ 255
def rdCaps (b:List Int) (l:List Cap):List Int × List Cap × Bool :=
 if b.length = 0 then (b,l,decide (0 < l.length))
 else if b.length < 2 then (b,l,false)
 else if b.length < 2 + (b.getD 1 0).toNat then (b.drop 2,l,false)
 else rdCaps (b.drop (2 + (b.getD 1 0).toNat)) (l ++ [⟨b.getD 0 0,(b.drop 2).take (b.getD 1 0).toNat⟩])
termination_by b.length
decreasing_by simp only [List.length_drop]; omega
theorem rdCaps_ok:∀ (n:Nat) (b:List Int) (l:List Cap),b.length ≤ n → isB b → (∀ c ∈ l,okCap c) → (rdCaps b l).2.2 = true →
   capsB (rdCaps b l).2.1 = capsB l ++ b ∧ (∀ c ∈ (rdCaps b l).2.1,okCap c) ∧ (rdCaps b l).2.1.length ≤ l.length + b.length ∧ (rdCaps b l).2.1 ≠ []:=by
 intro n
 induction n with
 | zero =>
   intro b l hn hb hl h
   have e:b = []:=List.eq_nil_of_length_eq_zero (by omega)
   subst e
   rw [rdCaps,if_pos (show ([]:List Int).length = 0 from rfl)] at h ⊢
   simp only [decide_eq_true_eq] at h
   exact ⟨by simp,hl,by simp,List.length_pos_iff.1 h⟩
 | succ n ih =>
   intro b l hn hb hl h
   by_cases h0:b.length = 0
   · have e:b = []:=List.eq_nil_of_length_eq_zero h0
     subst e
     rw [rdCaps,if_pos (show ([]:List Int).length = 0 from rfl)] at h ⊢
     simp only [decide_eq_true_eq] at h
     exact ⟨by simp,hl,by simp,List.length_pos_iff.1 h⟩
   rw [rdCaps,if_neg h0] at h ⊢
   by_cases h1:b.length < 2
   · rw [if_pos h1] at h; simp at h
   rw [if_neg h1] at h ⊢
   by_cases h2:b.length < 2 + (b.getD 1 0).toNat
   · rw [if_pos h2] at h; simp at h
   rw [if_neg h2] at h ⊢
   have hx:=getD_in hb 1
   have hy:=getD_in hb 0
   have e:=two_bytes (b:=b) (by omega)
   obtain ⟨k,hk⟩:∃ k:Nat,b.getD 1 0 = k:=⟨(b.getD 1 0).toNat,by omega⟩
   rw [hk,Int.toNat_natCast] at h h2 ⊢
   have hvl:((b.drop 2).take k).length = k:=by simp only [List.length_take,List.length_drop]; omega
   obtain ⟨r1,r2,r3,r4⟩:=ih _ (l ++ [⟨b.getD 0 0,(b.drop 2).take k⟩]) (by simp only [List.length_drop]; omega) (isB_drop hb _) (fun p hp=>by
     rcases List.mem_append.1 hp with hp | hp
     · exact hl p hp
     · simp only [List.mem_singleton] at hp; subst hp; exact ⟨hy,isB_take (isB_drop hb 2) k,by simp only [hvl]; omega⟩) h
   refine ⟨?_,r2,?_,r4⟩
   · rw [r1,capsB_app,List.append_assoc]
     congr 1
     simp only [capsB,capB,List.map_cons,List.map_nil,List.flatten_cons,List.flatten_nil,List.append_nil,hvl]
     rw [← List.drop_drop,List.append_assoc,List.take_append_drop,← hk]
     exact e.symm
   · simp only [List.length_append,List.length_drop,List.length_cons,List.length_nil] at r3
     omega
end Go.Proofs.YtapgoboiljjecaaGreatDoor

namespace Go.Proofs.YtapgoboiljjecaaGreatDoor
open Go Go.Am
set_option maxHeartbeats 1000000 in
set_option maxRecDepth 10000 in
theorem f111 (b:List Int) (hb:b.length < 1099511627000) (n:Nat) (hn:n ≤ 8) (x:Int):CFun Tryz.prog 71 [.int .i64 n,.int .u64 x,.ptr 0 0] [[.sl 1 (b.map enc8) .own]] (.tup []) [[.sl 1 ((b ++ numB n x).map enc8) .own]]:=by
 refine CFun.intro (tr:=[]) (fz:=[]) (n:=9) (rs:=[]) Tryz.func71 rfl (by kernel_rfl) rfl rfl mixed (by kernel_rfl) (by simp) (by simp) ?_
 have h70:=fun H=>(c88 b hb n hn x).up' H rfl rfl
 simp
 refine ⟨_,_,.inl (by simpa using h70 _),by simp,?_⟩
 simp
theorem put111 {H:List (List AVal)} {id:Nat} {b:List Int} (hid:H[id]? = some [.sl 1 (b.map enc8) .own]) (hb:b.length < 1099511627000) (n:Nat) (hn:n ≤ 8) (x:Int) :
   CFun Tryz.prog 71 [.int .i64 n,.int .u64 x,.ptr id 0] H (.tup []) (H.set id [.sl 1 ((b ++ numB n x).map enc8) .own]) :=
 (f111 b hb n hn x).at hid rfl rfl rfl rfl
end Go.Proofs.YtapgoboiljjecaaGreatDoor

namespace Go.Proofs.YtapgoboiljjecaaGreatDoor
open Go Go.Am
set_option maxHeartbeats 1000000 in
set_option maxRecDepth 10000 in
theorem f111z (n:Nat) (hn:n ≤ 8) (x:Int):CFun Tryz.prog 71 [.int .i64 n,.int .u64 x,.ptr 0 0] [[.sl 0 [] .full]] (.tup []) [[.sl 1 ((numB n x).map enc8) .own]]:=by
 refine CFun.intro (tr:=[]) (fz:=[]) (n:=9) (rs:=[]) Tryz.func71 rfl (by kernel_rfl) rfl rfl mixed (by kernel_rfl) (by simp) (by simp) ?_
 have h70:=fun H=>((c88 [] (by simp) n hn x).wk [.sl 0 [] .full,.int .i64 n,.int .u64 x] (by simp) (by simp [All2,LeS])).up' H rfl rfl
 simp only [List.nil_append] at h70
 simp
 refine ⟨_,_,.inl (by simpa using h70 _),by simp,?_⟩
 simp
theorem put111z {H:List (List AVal)} {id:Nat} (hid:H[id]? = some [.sl 0 [] .full]) (n:Nat) (hn:n ≤ 8) (x:Int) :
   CFun Tryz.prog 71 [.int .i64 n,.int .u64 x,.ptr id 0] H (.tup []) (H.set id [.sl 1 ((numB n x).map enc8) .own]) :=
 (f111z n hn x).at hid rfl rfl rfl rfl
end Go.Proofs.YtapgoboiljjecaaGreatDoor

namespace Go.Proofs.YtapgoboiljjecaaGreatDoor
open Go Go.Am
theorem flats_take {α:Type} {l:List α} {i:Nat} {x:α} (f:α → List Int) (h:l[i]? = some x):((l.take (i + 1)).map f).flatten = ((l.take i).map f).flatten ++ f x:=by
 rw [List.take_add_one,h]; simp
theorem run_rows {α:Type} (l:List α) (f:α → List Int) (B:List Int) (k:Nat) (hk:∀ x ∈ l,(f x).length ≤ k) (n:Nat) (hn:l.length = n) :
   ∃ R:Nat → List Int,R 0 = B ∧ (∀ i x,l[i]? = some x → R (i + 1) = R i ++ f x) ∧ R n = B ++ (l.map f).flatten ∧ ∀ i,(R i).length ≤ B.length + k * i:=by
 refine ⟨fun i=>B ++ ((l.take i).map f).flatten,by simp,fun i x h=>?_,?_,fun i=>?_⟩
 · simp only [flats_take f h,List.append_assoc]
 · simp only
   rw [List.take_of_length_le (by omega)]
 · have:=flat_leF (l.take i) f k (fun x hx=>hk x (List.mem_of_mem_take hx))
   have h2:(l.take i).length ≤ i:=by rw [List.length_take]; omega
   have h3:=Nat.mul_le_mul_left k h2
   simp only [List.length_append]
   omega
set_option maxHeartbeats 4000000 in
set_option maxRecDepth 10000 in
theorem f112 (p:Pkt) (n:Nat) (hn:p.Heads.length = n) (hlen:n < 1000000) (hc:∀ x ∈ p.Heads,chkH x = 0) (c0:AVal) (b:List Int) (hb:b.length < 1000)
   (hput:∀ (H:List (List AVal)) (x:Int),H[1]? = some [c0] → CFun Tryz.prog 71 [.int .i64 1,.int .u64 x,.ptr 1 0] H (.tup []) (H.set 1 [.sl 1 ((b ++ numB 1 x).map enc8) .own])) :
   CFun Tryz.prog 72 [.ptr 2 0,.ptr 0 0,.ptr 1 0] [cellsPk p,[c0],[.fn 71 [] [.ptr 1 0]]] (.tup []) [cellsPk p,[.sl 1 ((b ++ headsB p.Heads).map enc8) .own],[.fn 71 [] [.ptr 1 0]]]:=by
 refine CFun.intro (tr:=[25]) (fz:=[]) (n:=29) (rs:=[]) Tryz.func72 rfl (by kernel_rfl) rfl rfl mixed (by kernel_rfl) (by simp) (by simp) ?_
 obtain ⟨R,r0,rs,rn,rl⟩:=run_rows p.Heads hdrB (b ++ numB 1 (IntKind.u64.wrap n)) 18 (fun x _=>by rw [hdrB_len]; omega) n hn
 have hl0:(b ++ numB 1 (IntKind.u64.wrap n)).length ≤ 1000:=by simp only [List.length_append,numB_len]; omega
 have hB:b ++ headsB p.Heads = R n:=by rw [rn]; simp [headsB,cntB,hn,U]
 rw [hB]
 simp [hn]
 refine ⟨_,_,.inl (hput _ _ rfl),by simp,?_⟩
 simp [hn,-List.map_append,-List.append_assoc]
 rw [← r0] at rl hl0 ⊢
 refine LoopK.intro (tr:=[25]) mixed (by kernel_rfl) (fun i:Nat=>[(0,.ptr 2 0),(1,.ptr 0 0),(2,.ptr 1 0),(14,.sl 7 (p.Heads.map encH) .sh),(15,.int .i64 n),(16,.int .i64 i)])
   (fun i=>[cellsPk p,[.sl 1 ((R i).map enc8) .own],[.fn 71 [] [.ptr 1 0]]]) (fun i=>i ≤ n) (fun i=>n - i) 0 ?_ ?_ ?_
 · simp
 · simp
 · rintro i h1
   by_cases hi:i < n
   · obtain ⟨x,hx,hd⟩:=get_drop (l:=p.Heads) (i:=i) (by omega)
     have w1:IntKind.i64.wrap ((i:Int) + 1) = i + 1:=wrap_in (by omega)
     have h2:=fun H=>(c33 x).up' H rfl rfl
     have he:ehL x = (hdrB x,0):=by unfold ehL; rw [if_neg (by simp [hc x (List.mem_of_getElem? hx)])]
     rw [he] at h2
     have hl2:=hdrB_len x
     have hri:=rl i
     have hrs:=rs i x hx
     have s1:(R i).length + 18 ≤ 140737488355328:=by omega
     simp [hi,hx,gE hx,hn]
     refine ⟨_,_,.inl (by simpa using h2 _),by simp,?_⟩
     simp [hl2,s1,w1]
     exact ⟨i + 1,by omega,by omega,by simp [hrs]⟩
   · have:i = n:=by omega
     subst this
     simp [hn]
end Go.Proofs.YtapgoboiljjecaaGreatDoor

namespace Go.Proofs.YtapgoboiljjecaaGreatDoor
open Go Go.Am
set_option maxHeartbeats 8000000 in
set_option maxRecDepth 10000 in
theorem f69_1 (p:Pkt) (h:p.Kind = 1) (n:Nat) (hn:p.E.Seen.length = n) (hlen:n < 1000000):CFun Tryz.prog 20 [encPk p] [] (encBs (bodyP p)) []:=by
 refine CFun.intro (tr:=[156,200097]) (fz:=[]) (n:=161) (rs:=[.tmp 2]) Tryz.func20 rfl (by kernel_rfl) rfl rfl mixed (by kernel_rfl) (by simp) (by simp) ?_
 obtain ⟨R,r0,rs,rn,rl⟩:=run_rows p.E.Seen seenB (helB p.E) 4 (fun x _=>by rw [seenB_len]; omega) n hn
 have hb:bodyP p = R n:=by rw [rn]; unfold bodyP; rw [if_pos h]
 rw [hb]
 have hBl:(helB p.E).length ≤ 16:=by rw [helB_len]; omega
 simp [h,hn]
 refine ⟨_,_,.inl (put111z (id:=1) rfl 1 (by omega) _),by simp,?_⟩
 simp [hn,-List.map_append,-List.append_assoc]
 refine ⟨_,_,.inl (put111 (id:=1) (b:=numB 1 (IntKind.u64.wrap p.E.Len)) rfl (by simp [numB_len]) 2 (by omega) _),by simp,?_⟩
 simp [hn,-List.map_append,-List.append_assoc]
 refine ⟨_,_,.inl (put111 (id:=1) (b:=numB 1 (IntKind.u64.wrap p.E.Len) ++ numB 2 (IntKind.u64.wrap p.E.Hello)) rfl (by simp [numB_len]) 2 (by omega) _),by simp,?_⟩
 simp [hn,-List.map_append,-List.append_assoc]
 refine ⟨_,_,.inl (put111 (id:=1) (b:=numB 1 (IntKind.u64.wrap p.E.Len) ++ numB 2 (IntKind.u64.wrap p.E.Hello) ++ numB 2 (IntKind.u64.wrap p.E.Dead)) rfl (by simp [numB_len]) 1 (by omega) _),by simp,?_⟩
 simp [hn,-List.map_append,-List.append_assoc]
 refine ⟨_,_,.inl (put111 (id:=1) (b:=numB 1 (IntKind.u64.wrap p.E.Len) ++ numB 2 (IntKind.u64.wrap p.E.Hello) ++ numB 2 (IntKind.u64.wrap p.E.Dead) ++ numB 1 (IntKind.u64.wrap p.E.Pri)) rfl (by simp [numB_len]) 4 (by omega) _),by simp,?_⟩
 simp [hn,-List.map_append,-List.append_assoc]
 refine ⟨_,_,.inl (put111 (id:=1) (b:=numB 1 (IntKind.u64.wrap p.E.Len) ++ numB 2 (IntKind.u64.wrap p.E.Hello) ++ numB 2 (IntKind.u64.wrap p.E.Dead) ++ numB 1 (IntKind.u64.wrap p.E.Pri) ++ numB 4 (IntKind.u64.wrap p.E.DR)) rfl (by simp [numB_len]) 4 (by omega) _),by simp,?_⟩
 simp [hn,-List.map_append,-List.append_assoc]
 refine ⟨_,_,.inl (put111 (id:=1) (b:=numB 1 (IntKind.u64.wrap p.E.Len) ++ numB 2 (IntKind.u64.wrap p.E.Hello) ++ numB 2 (IntKind.u64.wrap p.E.Dead) ++ numB 1 (IntKind.u64.wrap p.E.Pri) ++ numB 4 (IntKind.u64.wrap p.E.DR) ++ numB 4 (IntKind.u64.wrap p.E.BDR)) rfl (by simp [numB_len]) 1 (by omega) _),by simp,?_⟩
 simp [hn,-List.map_append,-List.append_assoc]
 have hB:numB 1 (IntKind.u64.wrap p.E.Len) ++ numB 2 (IntKind.u64.wrap p.E.Hello) ++ numB 2 (IntKind.u64.wrap p.E.Dead) ++ numB 1 (IntKind.u64.wrap p.E.Pri) ++ numB 4 (IntKind.u64.wrap p.E.DR) ++ numB 4 (IntKind.u64.wrap p.E.BDR) ++ numB 1 (IntKind.u64.wrap (n:Int)) = R 0:=by rw [r0]; simp [helB,cntB,hn,U]
 rw [hB]
 refine LoopK.intro (tr:=[156,200097]) mixed (by kernel_rfl) (fun i:Nat=>[(3,.ptr 1 0),(4,.ptr 2 0),(67,.sl 1 (p.E.Seen.map enc32) .sh),(68,.int .i64 n),(69,.int .i64 i)])
   (fun i=>[[],[.sl 1 ((R i).map enc8) .own],[.fn 71 [] [.ptr 1 0]]]) (fun i=>i ≤ n) (fun i=>n - i) 0 ?_ ?_ ?_
 · simp
 · simp
 · rintro i h1
   by_cases hi:i < n
   · obtain ⟨x,hx,hd⟩:=get_drop (l:=p.E.Seen) (i:=i) (by omega)
     have w1:IntKind.i64.wrap ((i:Int) + 1) = i + 1:=wrap_in (by omega)
     have hri:=rl i
     have hrs:=rs i x hx
     clear hd
     simp [hi,hx,gE hx,hn,-List.map_append,-List.append_assoc]
     refine ⟨_,_,.inl (put111 (id:=1) (b:=R i) rfl (by omega) 4 (by omega) _),by simp,?_⟩
     simp [w1,-List.map_append,-List.append_assoc]
     refine ⟨i + 1,by omega,by omega,?_⟩
     simp [hrs,seenB,U]
   · have:i = n:=by omega
     subst this
     simp [hn]
end Go.Proofs.YtapgoboiljjecaaGreatDoor

namespace Go.Proofs.YtapgoboiljjecaaGreatDoor
open Go Go.Am
def flagsB (a b c:Bool):Int:=bitP a 1 + bitP b 2 + bitP c 4
theorem flag_or (a b c:Bool):IntKind.u64.wrap (((IntKind.u64.wrap (((bitP a 1 % 2 ^ IntKind.u64.bits).toNat ||| (bitP b 2 % 2 ^ IntKind.u64.bits).toNat:Nat):Int) % 2 ^ IntKind.u64.bits).toNat ||| (bitP c 4 % 2 ^ IntKind.u64.bits).toNat:Nat):Int) = flagsB a b c:=by
 cases a <;> cases b <;> cases c <;> decide +kernel
set_option maxHeartbeats 8000000 in
set_option maxRecDepth 10000 in
theorem f69_2 (p:Pkt) (h:p.Kind = 2) (n:Nat) (hn:p.Heads.length = n) (hlen:n < 1000000) (hc:∀ x ∈ p.Heads,chkH x = 0):CFun Tryz.prog 20 [encPk p] [] (encBs (bodyP p)) []:=by
 refine CFun.intro (tr:=[156,200097]) (fz:=[]) (n:=161) (rs:=[.tmp 2]) Tryz.func20 rfl (by kernel_rfl) rfl rfl mixed (by kernel_rfl) (by simp) (by simp) ?_
 have hb:bodyP p = numB 4 (U p.Seq) ++ numB 1 (flagsB p.Init p.More p.Master) ++ headsB p.Heads:=by unfold bodyP flagsB; rw [if_neg (by omega),if_neg (by omega),if_neg (by omega),if_pos h]; rfl
 rw [hb]
 have hf:=flag_or p.Init p.More p.Master
 have h1:=fun H=>(f113 p.Init 1).up' H rfl rfl
 have h2:=fun H=>(f113 p.More 2).up' H rfl rfl
 have h3:=fun H=>(f113 p.Master 4).up' H rfl rfl
 have h4:=f112 p n hn hlen hc (.sl 1 ((numB 4 (U p.Seq) ++ numB 1 (flagsB p.Init p.More p.Master)).map enc8) .own) (numB 4 (U p.Seq) ++ numB 1 (flagsB p.Init p.More p.Master)) (by simp [numB_len]) (fun H x hid=>put111 hid (by simp [numB_len]) 1 (by omega) x)
 simp [h]
 refine ⟨_,_,.inl (put111z (id:=1) rfl 4 (by omega) _),by simp,?_⟩
 simp [-List.map_append,-List.append_assoc]
 refine ⟨_,_,.inl (by simpa using h1 _),by simp,?_⟩
 simp [-List.map_append,-List.append_assoc]
 refine ⟨_,_,.inl (by simpa using h2 _),by simp,?_⟩
 simp [-List.map_append,-List.append_assoc]
 refine ⟨_,_,.inl (by simpa using h3 _),by simp,?_⟩
 simp [hf,-List.map_append,-List.append_assoc]
 refine ⟨_,_,.inl (put111 (id:=1) (b:=numB 4 (U p.Seq)) rfl (by simp [numB_len]) 1 (by omega) _),by simp,?_⟩
 simp [-List.map_append,-List.append_assoc]
 refine ⟨_,_,.inl (by simpa [h,-List.map_append,-List.append_assoc] using h4),by simp,?_⟩
 simp
set_option maxHeartbeats 8000000 in
set_option maxRecDepth 10000 in
theorem f69_5 (p:Pkt) (k1:¬ p.Kind = 1) (k2:¬ p.Kind = 2) (k3:¬ p.Kind = 3) (k4:¬ p.Kind = 4) (n:Nat) (hn:p.Heads.length = n) (hlen:n < 1000000) (hc:∀ x ∈ p.Heads,chkH x = 0):CFun Tryz.prog 20 [encPk p] [] (encBs (bodyP p)) []:=by
 refine CFun.intro (tr:=[156,200097]) (fz:=[]) (n:=161) (rs:=[.tmp 2]) Tryz.func20 rfl (by kernel_rfl) rfl rfl mixed (by kernel_rfl) (by simp) (by simp) ?_
 have hb:bodyP p = headsB p.Heads:=by unfold bodyP; rw [if_neg k1,if_neg k3,if_neg k4,if_neg k2]
 rw [hb]
 have h4:=f112 p n hn hlen hc (.sl 0 [] .full) [] (by simp) (fun H x hid=>put111z hid 1 (by omega) x)
 simp [k1,k2,k3,k4]
 refine ⟨_,_,.inl h4,by simp,?_⟩
 simp
end Go.Proofs.YtapgoboiljjecaaGreatDoor

namespace Go.Proofs.YtapgoboiljjecaaGreatDoor
open Go Go.Am
set_option maxHeartbeats 8000000 in
set_option maxRecDepth 10000 in
theorem f69_3 (p:Pkt) (h:p.Kind = 3) (n:Nat) (hn:p.Keys.length = n) (hlen:n < 1000000):CFun Tryz.prog 20 [encPk p] [] (encBs (bodyP p)) []:=by
 refine CFun.intro (tr:=[156,200097]) (fz:=[]) (n:=161) (rs:=[.tmp 2]) Tryz.func20 rfl (by kernel_rfl) rfl rfl mixed (by kernel_rfl) (by simp) (by simp) ?_
 obtain ⟨R,r0,rs,rn,rl⟩:=run_rows p.Keys keyBt (cntB n) 10 (fun x _=>by rw [keyBt_len]; omega) n hn
 have hb:bodyP p = R n:=by rw [rn]; unfold bodyP; rw [if_neg (by omega),if_pos h,hn]
 rw [hb]
 have hBl:(cntB n).length ≤ 16:=by rw [cntB_len]; omega
 simp [h,hn]
 refine ⟨_,_,.inl (put111z (id:=1) rfl 1 (by omega) _),by simp,?_⟩
 simp [hn,-List.map_append,-List.append_assoc]
 have hB:numB 1 (IntKind.u64.wrap n) = R 0:=by rw [r0]; rfl
 rw [hB]
 refine LoopK.intro (tr:=[156,200097]) mixed (by kernel_rfl) (fun i:Nat=>[(3,.ptr 1 0),(4,.ptr 2 0),(109,.sl 4 (p.Keys.map encY) .sh),(110,.int .i64 n),(111,.int .i64 i)])
   (fun i=>[[],[.sl 1 ((R i).map enc8) .own],[.fn 71 [] [.ptr 1 0]]]) (fun i=>i ≤ n) (fun i=>n - i) 0 ?_ ?_ ?_
 · simp
 · simp
 · rintro i h1
   by_cases hi:i < n
   · obtain ⟨x,hx,hd⟩:=get_drop (l:=p.Keys) (i:=i) (by omega)
     have w1:IntKind.i64.wrap ((i:Int) + 1) = i + 1:=wrap_in (by omega)
     have hri:=rl i
     have hrs:=rs i x hx
     clear hd
     simp [hi,hx,gE hx,hn,-List.map_append,-List.append_assoc]
     refine ⟨_,_,.inl (put111 (id:=1) (b:=R i) rfl (by first | omega | (simp only [List.length_append,numB_len]; omega)) 1 (by omega) _),by simp,?_⟩
     simp [w1,-List.map_append,-List.append_assoc]
     refine ⟨_,_,.inl (put111 (id:=1) (b:=R i ++ numB 1 (IntKind.u64.wrap x.Ty)) rfl (by first | omega | (simp only [List.length_append,numB_len]; omega)) 4 (by omega) _),by simp,?_⟩
     simp [w1,-List.map_append,-List.append_assoc]
     refine ⟨_,_,.inl (put111 (id:=1) (b:=R i ++ numB 1 (IntKind.u64.wrap x.Ty) ++ numB 4 (IntKind.u64.wrap x.ID)) rfl (by first | omega | (simp only [List.length_append,numB_len]; omega)) 1 (by omega) _),by simp,?_⟩
     simp [w1,-List.map_append,-List.append_assoc]
     refine ⟨_,_,.inl (put111 (id:=1) (b:=R i ++ numB 1 (IntKind.u64.wrap x.Ty) ++ numB 4 (IntKind.u64.wrap x.ID) ++ numB 1 (IntKind.u64.wrap x.Len)) rfl (by first | omega | (simp only [List.length_append,numB_len]; omega)) 4 (by omega) _),by simp,?_⟩
     simp [w1,-List.map_append,-List.append_assoc]
     refine ⟨i + 1,by omega,by omega,?_⟩
     simp [hrs,keyBt,U]
   · have:i = n:=by omega
     subst this
     simp [hn]
set_option maxHeartbeats 8000000 in
set_option maxRecDepth 10000 in
theorem f69_4 (p:Pkt) (h:p.Kind = 4) (n:Nat) (hn:p.Lsas.length = n) (hlen:n ≤ 64) (hc:∀ x ∈ p.Lsas,sealE x = 0):CFun Tryz.prog 20 [encPk p] [] (encBs (bodyP p)) []:=by
 refine CFun.intro (tr:=[156,200097]) (fz:=[]) (n:=161) (rs:=[.tmp 2]) Tryz.func20 rfl (by kernel_rfl) rfl rfl mixed (by kernel_rfl) (by simp) (by simp) ?_
 obtain ⟨R,r0,rs,rn,rl⟩:=run_rows p.Lsas bytesA (cntB n) 726 (fun x hx=>by
   obtain ⟨c1,c2⟩:=(sealE_iff x).1 (hc x hx)
   exact bytesA_len x (chkA_len c1).1 (chkA_len c1).2) n hn
 have hb:bodyP p = R n:=by rw [rn]; unfold bodyP; rw [if_neg (by omega),if_neg (by omega),if_pos h,hn]
 rw [hb]
 have hBl:(cntB n).length ≤ 16:=by rw [cntB_len]; omega
 simp [h,hn]
 refine ⟨_,_,.inl (put111z (id:=1) rfl 1 (by omega) _),by simp,?_⟩
 simp [hn,-List.map_append,-List.append_assoc]
 have hB:numB 1 (IntKind.u64.wrap n) = R 0:=by rw [r0]; rfl
 rw [hB]
 refine LoopK.intro (tr:=[156,200097]) mixed (by kernel_rfl) (fun i:Nat=>[(3,.ptr 1 0),(145,.sl 15 (p.Lsas.map encA) .sh),(146,.int .i64 n),(147,.int .i64 i)])
   (fun i=>[[],[.sl 1 ((R i).map enc8) .own]]) (fun i=>i ≤ n) (fun i=>n - i) 0 ?_ ?_ ?_
 · simp
 · simp
 · rintro i h1
   by_cases hi:i < n
   · obtain ⟨x,hx,hd⟩:=get_drop (l:=p.Lsas) (i:=i) (by omega)
     have w1:IntKind.i64.wrap ((i:Int) + 1) = i + 1:=wrap_in (by omega)
     have hri:=rl i
     have hrs:=rs i x hx
     clear hd
     obtain ⟨c1,c2⟩:=(sealE_iff x).1 (hc x (List.mem_of_getElem? hx))
     have hel:=encL_sealed c1 c2
     have h2:=fun H=>(c21 x).up' H rfl rfl
     rw [hel] at h2
     have hxl:=bytesA_len x (chkA_len c1).1 (chkA_len c1).2
     clear hel c1 c2
     generalize bytesA x = X at *
     have s1:(R i).length + X.length ≤ 140737488355328:=by omega
     simp [hi,hx,gE hx,hn,-List.map_append,-List.append_assoc]
     refine ⟨_,_,.inl (by simpa using h2 _),by simp,?_⟩
     simp [w1,s1,-List.map_append,-List.append_assoc]
     refine ⟨i + 1,by omega,by omega,?_⟩
     simp [hrs]
   · have:i = n:=by omega
     subst this
     simp [hn]
theorem f69 (p:Pkt) (h:chkP p = 0):CFun Tryz.prog 20 [encPk p] [] (encBs (bodyP p)) []:=by
 obtain ⟨h1,h2,h3,h4,h5,h6,h7⟩:=chkP_ok h
 by_cases k1:p.Kind = 1
 · exact f69_1 p k1 _ rfl (by have:=(chkE_ok (h3 k1)).2.2.2.2; omega)
 by_cases k2:p.Kind = 2
 · obtain ⟨c1,c2⟩:=listG_all (h7 (.inl k2))
   exact f69_2 p k2 _ rfl (by omega) c2
 by_cases k3:p.Kind = 3
 · exact f69_3 p k3 _ rfl (by have:=(listG_all (h4 k3)).1; omega)
 by_cases k4:p.Kind = 4
 · obtain ⟨c1,c2⟩:=listG_all (h5 k4)
   exact f69_4 p k4 _ rfl (by omega) c2
 · obtain ⟨c1,c2⟩:=listG_all (h7 (.inr (by omega)))
   exact f69_5 p k1 k2 k3 k4 _ rfl (by omega) c2
end Go.Proofs.YtapgoboiljjecaaGreatDoor

namespace Go.Proofs.YtapgoboiljjecaaGreatDoor
open Go Go.Am
end Go.Proofs.YtapgoboiljjecaaGreatDoor

namespace Go.Proofs.YtapgoboiljjecaaGreatDoor
open Go Go.Am
end Go.Proofs.YtapgoboiljjecaaGreatDoor
