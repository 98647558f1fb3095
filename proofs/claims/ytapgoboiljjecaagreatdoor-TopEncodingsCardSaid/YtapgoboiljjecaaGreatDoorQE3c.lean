import Derived.Test.YtapgoboiljjecaaGreatDoorQDS36
import Derived.Test.YtapgoboiljjecaaGreatDoorAmY
set_option linter.unusedSimpArgs false
set_option linter.unusedVariables false
namespace Go.Proofs.YtapgoboiljjecaaGreatDoor
open Go Go.Am
set_option linter.unusedSimpArgs false
theorem enc_sub (b:List Int) (n:Nat):((b.map enc8).take n).drop 20 = ((b.take n).drop 20).map enc8:=by
 rw [List.map_drop,List.map_take]
set_option maxHeartbeats 4000000 in
set_option maxRecDepth 10000 in
theorem c38 (b:List Int) (hb:isB b) (hlen:b.length < 281474976710656):CFun Tryz.prog 8 [encBs b] [] (.tup [encA (decL b).1,.int .i64 (decL b).2.1,.int .i64 (decL b).2.2]) []:=by
 refine CFun.intro (tr:=[]) (fz:=[]) (n:=58) (rs:=[.cell 2 44,.tmp 3,.tmp 4]) Tryz.func8 rfl (by kernel_rfl) rfl rfl mixed (by kernel_rfl) (by simp) (by simp) ?_
 obtain ⟨m,hm⟩:∃ m,b.length = m:=⟨_,rfl⟩
 have hc:(b.length:Int) = m:=by omega
 by_cases d1:m < 20
 · have d1':(m:Int) < 20:=by omega
   simp [hc,d1',decL,hm,d1,lsa0]
 have d1':¬ (m:Int) < 20:=by omega
 have h71:∀ {H:List (List AVal)},H[1]? = some (cellsR b 0 false) → CFun Tryz.prog 23 [.ptr 1 0] H (encH (hdrAt b)) (H.set 1 (rdC b 18)):=fun hid=>by
   have:=(c71 b hb (by omega) (by omega)).at hid rfl rfl rfl rfl
   have e:rdC b 18 = cellsR b 18 false:=by simp [rdC,show 18 ≤ b.length by omega]
   rw [e]; exact this
 have hn:=numAt_in hb 18 2
 obtain ⟨k,hk⟩:∃ k:Nat,numAt b 18 2 = k:=⟨(numAt b 18 2).toNat,by omega⟩
 have hz:numZ b 18 2 = k:=by rw [numZ_of (by omega),hk]
 have w0:IntKind.i64.wrap (k:Int) = k:=wrap_in (by omega)
 have w1:IntKind.i64.wrap (20 + (k:Int)) = 20 + k:=wrap_in (by omega)
 have h44:=fun n lo hi H=>(c44 n lo hi).up' H rfl rfl
 have hB:bodyAt b = (b.take (20 + k)).drop 20:=by rw [bodyAt,hk,Int.toNat_natCast]
 have hBb:isB (bodyAt b):=isB_bodyAt hb
 have hBl:(bodyAt b).length < 281474976710656:=by rw [hB]; simp; omega
 have h74:∀ {H:List (List AVal)},H[2]? = some (cellsZ (hdrAt b)) → CFun Tryz.prog 26 [.ptr 2 0,encBs (bodyAt b)] H (.bool (formB (hdrAt b) (bodyAt b))) (H.set 2 (cellsA (bodyR (hdrAt b) (bodyAt b)))):=fun hid=>(c74 (hdrAt b) (bodyAt b) hBb hBl).at hid rfl rfl rfl rfl
 have hD:decL b = if inR (hdrAt b).Ty 1 5 = false then (lsa0,0,15) else
   if m < 20 + k then (lsa0,0,3) else
   if formB (hdrAt b) (bodyAt b) = false then (lsa0,0,2) else
   if chkA (bodyR (hdrAt b) (bodyAt b)) ≠ 0 then (lsa0,0,chkA (bodyR (hdrAt b) (bodyAt b))) else
   if (bodyR (hdrAt b) (bodyAt b)).H.Sum ≠ sumA (bodyR (hdrAt b) (bodyAt b)) then (lsa0,0,13) else
   (bodyR (hdrAt b) (bodyAt b),20 + k,0):=by rw [decL,hm,if_neg d1,hk,Int.toNat_natCast]
 rw [hD]
 have hL:chkA (bodyR (hdrAt b) (bodyAt b)) = 0 → (bodyR (hdrAt b) (bodyAt b)).Links.length ≤ 64 ∧ (bodyR (hdrAt b) (bodyAt b)).Att.length ≤ 64:=chkA_len
 have h13:=fun H=>(c13 (bodyR (hdrAt b) (bodyAt b))).up' H rfl rfl
 have h54:=fun h1 h2 H=>(c54 (bodyR (hdrAt b) (bodyAt b)) h1 h2).up' H rfl rfl
 have hbH:(bodyR (hdrAt b) (bodyAt b)).H = hdrAt b:=bodyR_H _ _
 generalize formB (hdrAt b) (bodyAt b) = fo at h74 ⊢
 generalize bodyR (hdrAt b) (bodyAt b) = l at h74 h13 h54 hL hbH ⊢
 simp [hc,d1']
 refine ⟨_,_,.inl (h71 (by rfl)),by simp,?_⟩
 simp
 refine ⟨_,_,.inl (n73 (b:=b) (at_:=18) 2 (by simp) hb (by omega) (by omega) (by omega)),by simp,?_⟩
 rw [hz]
 simp [w0,w1]
 refine ⟨_,_,.inl (h44 _ _ _ _),by simp,?_⟩
 by_cases d2:inR (hdrAt b).Ty 1 5 = false
 · simp [d2,lsa0]
 have d2':inR (hdrAt b).Ty 1 5 = true:=by simpa using d2
 by_cases d3:m < 20 + k
 · have d3':(m:Int) < 20 + k:=by omega
   simp [d2',hc,d3',d3,lsa0]
 have d3':¬ (m:Int) < 20 + k:=by omega
 have d4:(20:Int) ≤ 20 + k:=by omega
 have d5:20 + k ≤ m:=by omega
 have d6:(20:Int) + k ≤ m:=by omega
 have d7:((20:Int) + k).toNat = 20 + k:=by omega
 have d8:(0:Int) ≤ 20 + k:=by omega
 have hs:=enc_sub b (20 + k)
 rw [← hB] at hs
 simp [d2',hc,hm,d3',d3,d4,d5,d6,d7,d8,hs,-List.map_take,-List.map_drop]
 refine ⟨_,_,.inl (h74 (by rfl)),by simp,?_⟩
 cases fo with
 | false=>simp [lsa0]
 | true =>
   simp
   refine ⟨_,_,.inl (h13 _),by simp,?_⟩
   by_cases d9:chkA l = 0
   · obtain ⟨l1,l2⟩:=hL d9
     simp [d9]
     refine ⟨_,_,.inl (h54 l1 l2 _),by simp,?_⟩
     by_cases e9:l.H.Sum = sumA l
     · simp [e9]
     · simp [e9,lsa0]
   · simp [d9,lsa0]
end Go.Proofs.YtapgoboiljjecaaGreatDoor

namespace Go.Proofs.YtapgoboiljjecaaGreatDoor
open Go Go.Am
set_option linter.unusedSimpArgs false
end Go.Proofs.YtapgoboiljjecaaGreatDoor

namespace Go.Proofs.YtapgoboiljjecaaGreatDoor
open Go Go.Am
set_option linter.unusedSimpArgs false
theorem encL_sealed {s:Lsa} (hc:chkA s = 0) (hs:s.H.Sum = sumA s):encL s = (bytesA s,0):=by
 rw [encL,if_neg (by simp [hc]),if_neg (by simp [← hs])]
end Go.Proofs.YtapgoboiljjecaaGreatDoor

namespace Go.Proofs.YtapgoboiljjecaaGreatDoor
open Go Go.Am
set_option linter.unusedSimpArgs false
theorem decH_hdrB {h:Hdr} (hc:chkH h = 0) (hw:inW h.ID) (hr:inW h.Router) (rest:List Int):decH (hdrB h ++ rest) = (h,0):=by
 unfold decH
 rw [hdrAt_hdrB hc hw hr,if_neg (by simp [hdrB_len]),if_neg (by simp [hc])]
end Go.Proofs.YtapgoboiljjecaaGreatDoor

namespace Go.Proofs.YtapgoboiljjecaaGreatDoor
open Go Go.Am
def ltY (a b:LKey):Prop:=cmpY a b < 0
instance (a b:LKey):Decidable (ltY a b):=inferInstanceAs (Decidable (_ < _))
def keyA (l:Lsa):LKey:=keyH l.H
def sealE (l:Lsa):Int:=if chkA l ≠ 0 then chkA l else if l.H.Sum ≠ sumA l then 13 else 0
end Go.Proofs.YtapgoboiljjecaaGreatDoor

namespace Go.Proofs.YtapgoboiljjecaaGreatDoor
open Go Go.Am
def okL (l:Lsa):Prop:=l.Links.length * 24 ≤ 140737488355328 ∧ l.Att.length * 4 ≤ 140737488355328
theorem encL_snd (l:Lsa):(encL l).2 = sealE l:=by
 unfold encL sealE
 split
 · rfl
 · split <;> rfl
end Go.Proofs.YtapgoboiljjecaaGreatDoor

namespace Go.Proofs.YtapgoboiljjecaaGreatDoor
open Go Go.Am
end Go.Proofs.YtapgoboiljjecaaGreatDoor

namespace Go.Proofs.YtapgoboiljjecaaGreatDoor
open Go Go.Am
end Go.Proofs.YtapgoboiljjecaaGreatDoor

namespace Go.Proofs.YtapgoboiljjecaaGreatDoor
open Go Go.Am
end Go.Proofs.YtapgoboiljjecaaGreatDoor
