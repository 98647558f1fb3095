import Derived.Test.YtapgoboiljjecaaGreatDoorQDS27
import Derived.Test.YtapgoboiljjecaaGreatDoorAmY
set_option linter.unusedSimpArgs false
set_option linter.unusedVariables false
namespace Go.Proofs.YtapgoboiljjecaaGreatDoor
open Go Go.Am
set_option linter.unusedSimpArgs false
def numAt (b:List Int) (at_:Nat):Nat → Int
 | 0=>0
 | n + 1=>numAt b at_ n * 256 + b.getD (at_ + n) 0
theorem getD_in {b:List Int} (hb:isB b) (i:Nat):0 ≤ b.getD i 0 ∧ b.getD i 0 ≤ 255:=by
 rw [List.getD_eq_getElem?_getD]
 cases h:b[i]? with
 | none=>simp
 | some x=>exact hb x (List.mem_of_getElem? h)
theorem numAt_in {b:List Int} (hb:isB b) (at_ n:Nat):0 ≤ numAt b at_ n ∧ numAt b at_ n < 256 ^ n:=by
 induction n with
 | zero=>simp [numAt]
 | succ n ih =>
   have h:=getD_in hb (at_ + n)
   simp only [numAt,Int.pow_succ]
   omega
theorem pow_le8 {n:Nat} (h:n ≤ 7):(256:Int) ^ n ≤ 72057594037927936:=by
 have:n = 0 ∨ n = 1 ∨ n = 2 ∨ n = 3 ∨ n = 4 ∨ n = 5 ∨ n = 6 ∨ n = 7:=by omega
 rcases this with rfl | rfl | rfl | rfl | rfl | rfl | rfl | rfl <;> decide
theorem orU_byte (v b:Int) (h0:0 ≤ v) (h1:v < 72057594037927936) (hb:0 ≤ b ∧ b ≤ 255):orU (v * 256) b = v * 256 + b:=by
 unfold orU
 have e0:IntKind.u64.bits = 64:=rfl
 rw [e0]
 have e1:((v * 256) % 2 ^ 64).toNat = v.toNat * 2 ^ 8:=by omega
 have e2:(b % 2 ^ 64).toNat = b.toNat:=by omega
 rw [e1,e2,Nat.mul_comm,← Nat.two_pow_add_eq_or_of_lt (by omega) v.toNat,wrap_u64]
 omega
set_option maxHeartbeats 2000000 in
set_option maxRecDepth 10000 in
theorem c93 (b:List Int) (hb:isB b) (hlen:b.length < 281474976710656) (at_ n:Nat) (ha:at_ < 281474976710656) (hn:n ≤ 8) :
   CFun Tryz.prog 31 [encBs b,.int .i64 at_,.int .i64 n] [] (.tup [.int .u64 (if at_ + n ≤ b.length then numAt b at_ n else 0),.bool (decide (at_ + n ≤ b.length))]) []:=by
 refine CFun.intro (tr:=[]) (fz:=[]) (n:=47) (rs:=[.tmp 6,.tmp 7]) Tryz.func31 rfl (by kernel_rfl) rfl rfl mixed (by kernel_rfl) (by simp) (by simp) ?_
 have z1:¬ ((n:Int) < 0):=by omega
 have z2:¬ ((8:Int) < n):=by omega
 have z3:¬ ((at_:Int) < 0):=by omega
 obtain ⟨m,hm⟩:∃ m,b.length = m:=⟨_,rfl⟩
 have hc:(b.length:Int) = m:=by omega
 have w1:IntKind.i64.wrap ((m:Int) - n) = m - n:=wrap_in (by omega)
 have w2:IntKind.i64.wrap ((at_:Int) + n) = at_ + n:=wrap_in (by omega)
 by_cases h:at_ + n ≤ m
 · have z4:¬ ((m:Int) - n < at_):=by omega
   have z5:(at_:Int) ≤ at_ + n:=by omega
   have z6:(at_:Int) + n ≤ m:=by omega
   have z7:((at_:Int) + n).toNat = at_ + n:=by omega
   have z8:at_ + n - at_ = n:=by omega
   have z9:(0:Int) ≤ (at_:Int) + n:=by omega
   have hs:(b.map enc8).take (at_ + n) = (b.take (at_ + n)).map enc8:=(List.map_take).symm
   have hs2:((b.take (at_ + n)).map enc8).drop at_ = ((b.take (at_ + n)).drop at_).map enc8:=(List.map_drop).symm
   have hcl:((b.take (at_ + n)).drop at_).length = n:=by simp; omega
   have hcg:∀ i,i < n → ((b.take (at_ + n)).drop at_)[i]? = some (b.getD (at_ + i) 0):=by
     intro i hi
     rw [List.getElem?_drop,List.getElem?_take,if_pos (by omega),List.getD_eq_getElem?_getD]
     rw [List.getElem?_eq_getElem (show at_ + i < b.length by omega)]
     rfl
   generalize (b.take (at_ + n)).drop at_ = c at hs2 hcl hcg
   have hcc:(c.length:Int) = n:=by omega
   have hin:=fun i=>getD_in hb i
   have hna:=fun k=>numAt_in hb at_ k
   have hst:∀ k,numAt b at_ (k + 1) = numAt b at_ k * 256 + b.getD (at_ + k) 0:=fun _=>rfl
   have hz:numAt b at_ 0 = 0:=rfl
   simp [z1,z2,z3,hc,hm,w1,w2,z4,h,z5,z6,z7,z8,z9,hs,hs2,hcl,hcc,-List.map_take,-List.map_drop]
   clear w1 w2 z1 z2 z3 z4 z5 z6 z7 z8 z9 hs hs2 hc
   refine LoopK.intro (tr:=[]) mixed (by kernel_rfl) (fun i:Nat=>[(8,.int .u64 (numAt b at_ i)),(34,.sl 1 (c.map enc8) .sh),(35,.int .i64 n),(36,.int .i64 i)]) (fun q=>[])
     (fun i=>i ≤ n) (fun i=>n - i) 0 ?_ ?_ ?_
   · simp
   · simp [hz]
   · rintro i h1
     by_cases hi:i < n
     · have hx:=hcg i hi
       have w1:IntKind.i64.wrap ((i:Int) + 1) = i + 1:=wrap_in (by omega)
       have hv:=hna i
       have hb':=hin (at_ + i)
       have hp:=pow_le8 (show i ≤ 7 by omega)
       have hsu:=hst i
       generalize b.getD (at_ + i) 0 = x at hx hb' hsu
       generalize numAt b at_ i = v at hv hsu ⊢
       have u1:IntKind.u64.wrap (v * 256) = v * 256:=by rw [wrap_u64]; omega
       have u2:IntKind.u64.wrap x = x:=by rw [wrap_u64]; omega
       have u3:=orU_byte v x hv.1 (by omega) hb'
       simp only [orU] at u3
       have u4:min 8 IntKind.u64.bits = 8:=rfl
       simp [hi,hx,w1,u1,u2,u3,u4]
       exact ⟨i + 1,by omega,by omega,hsu.symm,by simp⟩
     · have:i = n:=by omega
       subst this
       simp
 · have z4:((m:Int) - n < at_):=by omega
   simp [z1,z2,z3,hc,hm,w1,z4,h]
end Go.Proofs.YtapgoboiljjecaaGreatDoor

namespace Go.Proofs.YtapgoboiljjecaaGreatDoor
open Go Go.Am
set_option linter.unusedSimpArgs false
@[simp] def cellsR (b:List Int) (at_:Nat) (bad:Bool):List AVal:=[encBs b,.int .i64 at_,.bool bad]
set_option maxHeartbeats 2000000 in
set_option maxRecDepth 10000 in
theorem c73 (b:List Int) (hb:isB b) (hlen:b.length < 281474976710656) (at_ n:Nat) (ha:at_ < 281474976710656) (hn:n ≤ 8) (bad:Bool) :
   CFun Tryz.prog 24 [.ptr 0 0,.int .i64 n] [cellsR b at_ bad] (.int .u64 (if at_ + n ≤ b.length then numAt b at_ n else 0)) [cellsR b (at_ + n) (bad || !decide (at_ + n ≤ b.length))]:=by
 refine CFun.intro (tr:=[]) (fz:=[]) (n:=34) (rs:=[.tmp 4]) Tryz.func24 rfl (by kernel_rfl) rfl rfl mixed (by kernel_rfl) (by simp) (by simp) ?_
 have h93:=fun H=>(c93 b hb hlen at_ n ha hn).up' H rfl rfl
 have w2:IntKind.i64.wrap ((at_:Int) + n) = at_ + n:=wrap_in (by omega)
 simp
 refine ⟨_,_,.inl (h93 _),by simp,?_⟩
 by_cases h:at_ + n ≤ b.length
 · simp [h,w2]
 · simp [h,w2]
theorem g73 {H:List (List AVal)} {id:Nat} {b:List Int} {at_:Nat} {bad:Bool} (n:Nat) (hid:H[id]? = some (cellsR b at_ bad)) (hb:isB b) (hlen:b.length < 281474976710656) (ha:at_ < 281474976710656) (hn:n ≤ 8) :
   CFun Tryz.prog 24 [.ptr id 0,.int .i64 n] H (.int .u64 (if at_ + n ≤ b.length then numAt b at_ n else 0)) (H.set id (cellsR b (at_ + n) (bad || !decide (at_ + n ≤ b.length)))) :=
 (c73 b hb hlen at_ n ha hn bad).at hid rfl rfl rfl rfl
theorem r73 {H:List (List AVal)} {id:Nat} {b:List Int} {at_:Nat} {bad:Bool} (n:Nat) (hid:H[id]? = some (cellsR b at_ bad)) (hb:isB b) (hlen:b.length < 281474976710656) (h:at_ + n ≤ b.length) (hn:n ≤ 8) :
   CFun Tryz.prog 24 [.ptr id 0,.int .i64 n] H (.int .u64 (numAt b at_ n)) (H.set id (cellsR b (at_ + n) bad)):=by
 have:=g73 (H:=H) n hid hb hlen (by omega) hn
 simpa only [h,if_true,decide_true,Bool.not_true,Bool.or_false] using this
def W32 (x:Int):Int:=IntKind.u32.wrap x
def I64 (x:Int):Int:=IntKind.i64.wrap x
def hdrAt (b:List Int):Hdr:=⟨IntKind.i64.wrap (numAt b 2 1),IntKind.u32.wrap (numAt b 4 4),IntKind.i64.wrap (numAt b 3 1),IntKind.u32.wrap (numAt b 8 4),IntKind.i64.wrap (numAt b 12 4),IntKind.i64.wrap (numAt b 0 2),IntKind.i64.wrap (numAt b 16 2)⟩
set_option maxHeartbeats 4000000 in
set_option maxRecDepth 10000 in
theorem c71 (b:List Int) (hb:isB b) (hlen:b.length < 281474976710656) (h18:18 ≤ b.length):CFun Tryz.prog 23 [.ptr 0 0] [cellsR b 0 false] (encH (hdrAt b)) [cellsR b 18 false]:=by
 refine CFun.intro (tr:=[]) (fz:=[]) (n:=33) (rs:=[.cell 2 41]) Tryz.func23 rfl (by kernel_rfl) rfl rfl mixed (by kernel_rfl) (by simp) (by simp) ?_
 simp
 refine ⟨_,_,.inl (r73 (b:=b) (at_:=0) (bad:=false) 2 (by rfl) hb hlen (by omega) (by omega)),by simp,?_⟩
 simp
 refine ⟨_,_,.inl (r73 (b:=b) (at_:=2) (bad:=false) 1 (by rfl) hb hlen (by omega) (by omega)),by simp,?_⟩
 simp
 refine ⟨_,_,.inl (r73 (b:=b) (at_:=3) (bad:=false) 1 (by rfl) hb hlen (by omega) (by omega)),by simp,?_⟩
 simp
 refine ⟨_,_,.inl (r73 (b:=b) (at_:=4) (bad:=false) 4 (by rfl) hb hlen (by omega) (by omega)),by simp,?_⟩
 simp
 refine ⟨_,_,.inl (r73 (b:=b) (at_:=8) (bad:=false) 4 (by rfl) hb hlen (by omega) (by omega)),by simp,?_⟩
 simp
 refine ⟨_,_,.inl (r73 (b:=b) (at_:=12) (bad:=false) 4 (by rfl) hb hlen (by omega) (by omega)),by simp,?_⟩
 simp
 refine ⟨_,_,.inl (r73 (b:=b) (at_:=16) (bad:=false) 2 (by rfl) hb hlen (by omega) (by omega)),by simp,?_⟩
 simp [hdrAt]
def decH (b:List Int):Hdr × Int :=
 if b.length < 18 then (⟨0,0,0,0,0,0,0⟩,3) else if chkH (hdrAt b) ≠ 0 then (⟨0,0,0,0,0,0,0⟩,chkH (hdrAt b)) else (hdrAt b,0)
set_option maxHeartbeats 4000000 in
set_option maxRecDepth 10000 in
theorem c36 (b:List Int) (hb:isB b) (hlen:b.length < 281474976710656):CFun Tryz.prog 105 [encBs b] [] (.tup [encH (decH b).1,.int .i64 (decH b).2]) []:=by
 refine CFun.intro (tr:=[]) (fz:=[]) (n:=21) (rs:=[.cell 2 41,.tmp 3]) Tryz.func105 rfl (by kernel_rfl) rfl rfl mixed (by kernel_rfl) (by simp) (by simp) ?_
 obtain ⟨n,hn⟩:∃ n,b.length = n:=⟨_,rfl⟩
 have hc:(b.length:Int) = n:=by omega
 unfold decH
 by_cases h:n < 18
 · have z:(n:Int) < 18:=by omega
   simp [hc,hn,z,h]
 · have z:¬ (n:Int) < 18:=by omega
   have h71:∀ {H:List (List AVal)},H[1]? = some (cellsR b 0 false) → CFun Tryz.prog 23 [.ptr 1 0] H (encH (hdrAt b)) (H.set 1 (cellsR b 18 false)):=fun hid=>(c71 b hb hlen (by omega)).at hid rfl rfl rfl rfl
   have h40:=fun H=>(c40 (hdrAt b)).up' H rfl rfl
   generalize hdrAt b = d at h71 h40
   simp [hc,hn,z,h]
   refine ⟨_,_,.inl (h71 (by rfl)),by simp,?_⟩
   simp
   refine ⟨_,_,.inl (h40 _),by simp,?_⟩
   by_cases e:chkH d = 0
   · simp [e]
   · simp [e]
theorem hdrAt_W (b:List Int):inW (hdrAt b).ID:=by
 have:∀ x,inW (IntKind.u32.wrap x):=fun x=>by
   have:IntKind.u32.wrap x = x % 4294967296:=rfl
   unfold inW; omega
 exact this _
def ehL (h:Hdr):List Int × Int:=if chkH h ≠ 0 then ([],chkH h) else (hdrB h,0)
set_option maxHeartbeats 2000000 in
set_option maxRecDepth 10000 in
theorem c33 (h:Hdr):CFun Tryz.prog 73 [encH h] [] (.tup [encBs (ehL h).1,.int .i64 (ehL h).2]) []:=by
 refine CFun.intro (tr:=[]) (fz:=[]) (n:=12) (rs:=[.tmp 2,.tmp 3]) Tryz.func73 rfl (by kernel_rfl) rfl rfl mixed (by kernel_rfl) (by simp) (by simp) ?_
 have h40:=fun H=>(c40 h).up' H rfl rfl
 have h69:=fun H=>(c69 h).up' H rfl rfl
 unfold ehL
 simp
 refine ⟨_,_,.inl (h40 _),by simp,?_⟩
 by_cases e:chkH h = 0
 · simp [e]
   refine ⟨_,_,.inl (h69 _),by simp,?_⟩
   simp
 · simp [e]
end Go.Proofs.YtapgoboiljjecaaGreatDoor

namespace Go.Proofs.YtapgoboiljjecaaGreatDoor
open Go Go.Am
set_option linter.unusedSimpArgs false
end Go.Proofs.YtapgoboiljjecaaGreatDoor

namespace Go.Proofs.YtapgoboiljjecaaGreatDoor
open Go Go.Am
set_option linter.unusedSimpArgs false
theorem pow256 (i:Nat):(2:Int) ^ (8 * i) = 256 ^ i:=by
 rw [Int.pow_mul]; rfl
theorem bt_eq (x:Int) (i:Nat):bt x i = x / 256 ^ i % 256:=by
 have h:bt x i = (x.fdiv (2 ^ (8 * i))) % 256:=rfl
 rw [h,pow256,Int.fdiv_eq_ediv_of_nonneg _ (Int.pow_nonneg (by decide))]
theorem numB_get (n:Nat) (x:Int) (k:Nat) (hk:k < n):(numB n x)[k]? = some (bt x (n - 1 - k)):=by
 induction n generalizing k with
 | zero=>omega
 | succ n ih =>
   cases k with
   | zero=>simp [numB]
   | succ k =>
     simp only [numB,List.getElem?_cons_succ]
     rw [ih k (by omega),show n - 1 - k = n + 1 - 1 - (k + 1) by omega]
theorem emod_mul256 (y m:Int) (hm:0 < m):y % (256 * m) = 256 * (y / 256 % m) + y % 256:=by
 have h1:=Int.emod_add_mul_ediv y 256
 have h2:=Int.emod_add_mul_ediv (y / 256) m
 have h3:0 ≤ y / 256 % m:=Int.emod_nonneg _ (by omega)
 have h4:y / 256 % m < m:=Int.emod_lt_of_pos _ hm
 have e:y = (256 * (y / 256 % m) + y % 256) + 256 * m * (y / 256 / m):=by
   rw [Int.mul_assoc]; omega
 generalize y / 256 % m = q at *
 generalize y / 256 / m = t at *
 generalize y % 256 = r at *
 have hr:0 ≤ r ∧ r < 256 ∨ True:=.inr trivial
 clear hr
 rw [e,Int.add_mul_emod_self_left]
 refine Int.emod_eq_of_lt ?_ ?_
 · omega
 · omega
theorem numAt_numB (b:List Int) (at_ n:Nat) (x:Int) (h:∀ k,k < n → b.getD (at_ + k) 0 = bt x (n - 1 - k)):∀ k,k ≤ n → numAt b at_ k = x / 256 ^ (n - k) % 256 ^ k:=by
 intro k
 induction k with
 | zero=>intro _; simp [numAt,Int.emod_one]
 | succ k ih =>
   intro hk
   simp only [numAt]
   rw [ih (by omega),h k (by omega),bt_eq,show n - k = (n - 1 - k) + 1 by omega,show n - (k + 1) = n - 1 - k by omega]
   have e:x / 256 ^ (n - 1 - k + 1) = x / 256 ^ (n - 1 - k) / 256:=by
     rw [Int.pow_succ,Int.ediv_ediv_of_nonneg (Int.pow_nonneg (by decide))]
   rw [e]
   generalize x / 256 ^ (n - 1 - k) = y
   rw [Int.pow_succ,Int.mul_comm (256 ^ k) 256,emod_mul256 _ _ (Int.pow_pos (by decide))]
   omega
theorem numAt_app (a c:List Int) (n:Nat) (x:Int) (at_:Nat) (ha:a.length = at_):numAt (a ++ (numB n x ++ c)) at_ n = x % 256 ^ n:=by
 rw [numAt_numB (a ++ (numB n x ++ c)) at_ n x (fun k hk=>?_) n (Nat.le_refl _)]
 · simp
 · rw [List.getD_eq_getElem?_getD,List.getElem?_append_right (by omega),show at_ + k - a.length = k by omega,List.getElem?_append_left (by rw [numB_len]; exact hk),numB_get n x k hk]
   rfl
theorem numAt_div {b:List Int} (hb:isB b) (at_ n:Nat):∀ j,j ≤ n → numAt b at_ n / 256 ^ j = numAt b at_ (n - j):=by
 intro j
 induction j with
 | zero=>intro _; simp
 | succ j ih =>
   intro hj
   rw [Int.pow_succ,← Int.ediv_ediv_of_nonneg (Int.pow_nonneg (by decide)),ih (by omega),show n - j = (n - (j + 1)) + 1 by omega]
   simp only [numAt]
   have:=getD_in hb (at_ + (n - (j + 1)))
   omega
theorem numB_numAt {b:List Int} (hb:isB b) (at_ n:Nat) (h:at_ + n ≤ b.length):numB n (numAt b at_ n) = (b.drop at_).take n:=by
 apply List.ext_getElem?
 intro k
 by_cases hk:k < n
 · rw [numB_get n _ k hk,bt_eq,numAt_div hb at_ n (n - 1 - k) (by omega),show n - (n - 1 - k) = k + 1 by omega,List.getElem?_take,if_pos hk,List.getElem?_drop]
   simp only [numAt]
   have:=getD_in hb (at_ + k)
   have e:b[at_ + k]? = some (b.getD (at_ + k) 0):=by
     rw [List.getD_eq_getElem?_getD,List.getElem?_eq_getElem (show at_ + k < b.length by omega)]; rfl
   rw [e]
   congr 1
   omega
 · rw [List.getElem?_eq_none (by rw [numB_len]; omega),List.getElem?_eq_none (by simp; omega)]
theorem u64_id {x:Int} (h:0 ≤ x ∧ x < 18446744073709551616):U x = x:=by
 have:U x = x % 18446744073709551616:=rfl
 omega
theorem u32_id {x:Int} (h:0 ≤ x ∧ x < 4294967296):IntKind.u32.wrap x = x:=by
 have:IntKind.u32.wrap x = x % 4294967296:=rfl
 omega
theorem take_parts (b:List Int) (m n:Nat):b.take m ++ (b.drop m).take n = b.take (m + n):=by
 rw [List.take_add]
theorem chkH_ok {h:Hdr} (hc:chkH h = 0):(1 ≤ h.Ty ∧ h.Ty ≤ 5) ∧ h.Router ≠ 0 ∧ (1 ≤ h.Seq ∧ h.Seq ≤ 2147483647) ∧ (0 ≤ h.Age ∧ h.Age ≤ 3600) ∧ (0 ≤ h.Sum ∧ h.Sum ≤ 65535) ∧ (0 ≤ h.Len ∧ h.Len ≤ 32):=by
 unfold chkH at hc
 by_cases e1:inR h.Ty 1 5 = false
 · rw [if_pos e1] at hc; omega
 rw [if_neg e1] at hc
 by_cases e2:h.Router = 0 ∨ inR h.Seq 1 2147483647 = false ∨ inR h.Age 0 3600 = false ∨ inR h.Sum 0 65535 = false ∨ inR h.Len 0 (if hasP h.Ty = true then 32 else 0) = false
 · rw [if_pos e2] at hc; omega
 clear hc
 simp only [not_or,Bool.not_eq_false,inR_iff] at e1 e2
 obtain ⟨f1,f2,f3,f4,f5⟩:=e2
 refine ⟨e1,f1,f2,f3,f4,?_⟩
 split at f5 <;> omega
theorem hdrAt_hdrB {h:Hdr} (hc:chkH h = 0) (hw:inW h.ID) (hr:inW h.Router) (rest:List Int):hdrAt (hdrB h ++ rest) = h:=by
 obtain ⟨f1,_,f2,f3,f4,f5⟩:=chkH_ok hc
 unfold inW at hw hr
 have r0:numAt (hdrB h ++ rest) 0 2 = U h.Age % 256 ^ 2:=by
   rw [show hdrB h ++ rest = [] ++ (numB 2 (U h.Age) ++ (numB 1 (U h.Ty) ++ numB 1 (U h.Len) ++ numB 4 (U h.ID) ++ numB 4 (U h.Router) ++ numB 4 (U h.Seq) ++ numB 2 (U h.Sum) ++ rest)) by simp [hdrB,List.append_assoc]]
   exact numAt_app _ _ _ _ _ rfl
 have r1:numAt (hdrB h ++ rest) 2 1 = U h.Ty % 256 ^ 1:=by
   rw [show hdrB h ++ rest = numB 2 (U h.Age) ++ (numB 1 (U h.Ty) ++ (numB 1 (U h.Len) ++ numB 4 (U h.ID) ++ numB 4 (U h.Router) ++ numB 4 (U h.Seq) ++ numB 2 (U h.Sum) ++ rest)) by simp [hdrB,List.append_assoc]]
   exact numAt_app _ _ _ _ _ (by simp [numB_len])
 have r2:numAt (hdrB h ++ rest) 3 1 = U h.Len % 256 ^ 1:=by
   rw [show hdrB h ++ rest = (numB 2 (U h.Age) ++ numB 1 (U h.Ty)) ++ (numB 1 (U h.Len) ++ (numB 4 (U h.ID) ++ numB 4 (U h.Router) ++ numB 4 (U h.Seq) ++ numB 2 (U h.Sum) ++ rest)) by simp [hdrB,List.append_assoc]]
   exact numAt_app _ _ _ _ _ (by simp [numB_len])
 have r3:numAt (hdrB h ++ rest) 4 4 = U h.ID % 256 ^ 4:=by
   rw [show hdrB h ++ rest = (numB 2 (U h.Age) ++ numB 1 (U h.Ty) ++ numB 1 (U h.Len)) ++ (numB 4 (U h.ID) ++ (numB 4 (U h.Router) ++ numB 4 (U h.Seq) ++ numB 2 (U h.Sum) ++ rest)) by simp [hdrB,List.append_assoc]]
   exact numAt_app _ _ _ _ _ (by simp [numB_len])
 have r4:numAt (hdrB h ++ rest) 8 4 = U h.Router % 256 ^ 4:=by
   rw [show hdrB h ++ rest = (numB 2 (U h.Age) ++ numB 1 (U h.Ty) ++ numB 1 (U h.Len) ++ numB 4 (U h.ID)) ++ (numB 4 (U h.Router) ++ (numB 4 (U h.Seq) ++ numB 2 (U h.Sum) ++ rest)) by simp [hdrB,List.append_assoc]]
   exact numAt_app _ _ _ _ _ (by simp [numB_len])
 have r5:numAt (hdrB h ++ rest) 12 4 = U h.Seq % 256 ^ 4:=by
   rw [show hdrB h ++ rest = (numB 2 (U h.Age) ++ numB 1 (U h.Ty) ++ numB 1 (U h.Len) ++ numB 4 (U h.ID) ++ numB 4 (U h.Router)) ++ (numB 4 (U h.Seq) ++ (numB 2 (U h.Sum) ++ rest)) by simp [hdrB,List.append_assoc]]
   exact numAt_app _ _ _ _ _ (by simp [numB_len])
 have r6:numAt (hdrB h ++ rest) 16 2 = U h.Sum % 256 ^ 2:=by
   rw [show hdrB h ++ rest = (numB 2 (U h.Age) ++ numB 1 (U h.Ty) ++ numB 1 (U h.Len) ++ numB 4 (U h.ID) ++ numB 4 (U h.Router) ++ numB 4 (U h.Seq)) ++ (numB 2 (U h.Sum) ++ rest) by simp [hdrB,List.append_assoc]]
   exact numAt_app _ _ _ _ _ (by simp [numB_len])
 unfold hdrAt
 rw [r0,r1,r2,r3,r4,r5,r6]
 rw [hdr_ext]
 simp only
 refine ⟨?_,?_,?_,?_,?_,?_,?_⟩
 · rw [u64_id (by omega),wrap_i _ (by omega) (by omega)]; omega
 · rw [u64_id (by omega),u32_id (by omega)]; omega
 · rw [u64_id (by omega),wrap_i _ (by omega) (by omega)]; omega
 · rw [u64_id (by omega),u32_id (by omega)]; omega
 · rw [u64_id (by omega),wrap_i _ (by omega) (by omega)]; omega
 · rw [u64_id (by omega),wrap_i _ (by omega) (by omega)]; omega
 · rw [u64_id (by omega),wrap_i _ (by omega) (by omega)]; omega
theorem hdrB_hdrAt {b:List Int} (hb:isB b) (h18:18 ≤ b.length):hdrB (hdrAt b) = b.take 18:=by
 have n0:=numAt_in hb 0 2
 have n1:=numAt_in hb 2 1
 have n2:=numAt_in hb 3 1
 have n3:=numAt_in hb 4 4
 have n4:=numAt_in hb 8 4
 have n5:=numAt_in hb 12 4
 have n6:=numAt_in hb 16 2
 unfold hdrB hdrAt
 simp only
 rw [wrap_i (numAt b 0 2) (by omega) (by omega),wrap_i (numAt b 2 1) (by omega) (by omega),wrap_i (numAt b 3 1) (by omega) (by omega),u32_id (x:=numAt b 4 4) (by omega),u32_id (x:=numAt b 8 4) (by omega),wrap_i (numAt b 12 4) (by omega) (by omega),wrap_i (numAt b 16 2) (by omega) (by omega)]
 rw [u64_id (x:=numAt b 0 2) (by omega),u64_id (x:=numAt b 2 1) (by omega),u64_id (x:=numAt b 3 1) (by omega),u64_id (x:=numAt b 4 4) (by omega),u64_id (x:=numAt b 8 4) (by omega),u64_id (x:=numAt b 12 4) (by omega),u64_id (x:=numAt b 16 2) (by omega)]
 rw [numB_numAt hb 0 2 (by omega),numB_numAt hb 2 1 (by omega),numB_numAt hb 3 1 (by omega),numB_numAt hb 4 4 (by omega),numB_numAt hb 8 4 (by omega),numB_numAt hb 12 4 (by omega),numB_numAt hb 16 2 (by omega)]
 rw [List.drop_zero,take_parts,take_parts,take_parts,take_parts,take_parts,take_parts]
end Go.Proofs.YtapgoboiljjecaaGreatDoor

namespace Go.Proofs.YtapgoboiljjecaaGreatDoor
open Go Go.Am
set_option linter.unusedSimpArgs false
def numZ (b:List Int) (at_ n:Nat):Int:=if at_ + n ≤ b.length then numAt b at_ n else 0
theorem numZ_in {b:List Int} (hb:isB b) (at_ n:Nat):0 ≤ numZ b at_ n ∧ numZ b at_ n < 256 ^ n:=by
 unfold numZ
 split
 · exact numAt_in hb at_ n
 · exact ⟨Int.le_refl _,Int.pow_pos (by decide)⟩
theorem numZ_of {b:List Int} {at_ n:Nat} (h:at_ + n ≤ b.length):numZ b at_ n = numAt b at_ n:=if_pos h
def oddI (x:Int):Bool:=decide (x % 2 = 1)
def linkAt (b:List Int) (at_:Nat):Lnk:=⟨I64 (numZ b at_ 1),W32 (numZ b (at_ + 1) 4),W32 (numZ b (at_ + 5) 4),I64 (numZ b (at_ + 9) 2)⟩
def bodyR (h:Hdr) (b:List Int):Lsa :=
 if h.Ty = 1 then ⟨h,oddI (numZ b 0 1),oddI (numZ b 0 1 / 2),(List.range (numZ b 1 1).toNat).map (fun i=>linkAt b (2 + 11 * i)),[],0,false,0,0⟩
 else if h.Ty = 2 then ⟨h,false,false,[],(List.range (numZ b 0 1).toNat).map (fun i=>W32 (numZ b (1 + 4 * i) 4)),0,false,0,0⟩
 else if h.Ty = 3 ∨ h.Ty = 4 then ⟨h,false,false,[],[],I64 (numZ b 0 4),false,0,0⟩
 else ⟨h,false,false,[],[],I64 (numZ b 1 4),oddI (numZ b 0 1),W32 (numZ b 5 4),I64 (numZ b 9 4)⟩
def formB (h:Hdr) (b:List Int):Bool :=
 if h.Ty = 1 then decide (2 + 11 * (numZ b 1 1).toNat = b.length) && decide (numZ b 0 1 ≤ 3)
 else if h.Ty = 2 then decide (1 + 4 * (numZ b 0 1).toNat = b.length)
 else if h.Ty = 3 ∨ h.Ty = 4 then decide (4 = b.length)
 else decide (13 = b.length) && decide (numZ b 0 1 ≤ 1)
theorem bodyR_H (h:Hdr) (b:List Int):(bodyR h b).H = h:=by
 unfold bodyR; repeat' split
 all_goals rfl
theorem rb1 {b:List Int} (hb:isB b) {at_:Nat} (h:at_ + 1 ≤ b.length):numB 1 (U (I64 (numZ b at_ 1))) = (b.drop at_).take 1:=by
 have:=numAt_in hb at_ 1
 rw [numZ_of h,I64,wrap_i _ (by omega) (by omega),u64_id (by omega),numB_numAt hb at_ 1 h]
theorem rb2 {b:List Int} (hb:isB b) {at_:Nat} (h:at_ + 2 ≤ b.length):numB 2 (U (I64 (numZ b at_ 2))) = (b.drop at_).take 2:=by
 have:=numAt_in hb at_ 2
 rw [numZ_of h,I64,wrap_i _ (by omega) (by omega),u64_id (by omega),numB_numAt hb at_ 2 h]
theorem rb4 {b:List Int} (hb:isB b) {at_:Nat} (h:at_ + 4 ≤ b.length):numB 4 (U (I64 (numZ b at_ 4))) = (b.drop at_).take 4:=by
 have:=numAt_in hb at_ 4
 rw [numZ_of h,I64,wrap_i _ (by omega) (by omega),u64_id (by omega),numB_numAt hb at_ 4 h]
theorem rw4 {b:List Int} (hb:isB b) {at_:Nat} (h:at_ + 4 ≤ b.length):numB 4 (U (W32 (numZ b at_ 4))) = (b.drop at_).take 4:=by
 have:=numAt_in hb at_ 4
 rw [numZ_of h,W32,u32_id (by omega),u64_id (by omega),numB_numAt hb at_ 4 h]
theorem dt_app (b:List Int) (a m n:Nat):(b.drop a).take m ++ (b.drop (a + m)).take n = (b.drop a).take (m + n):=by
 rw [List.take_add,List.drop_drop]
theorem linkB_linkAt {b:List Int} (hb:isB b) {at_:Nat} (h:at_ + 11 ≤ b.length):linkB (linkAt b at_) = (b.drop at_).take 11:=by
 unfold linkB linkAt
 simp only
 rw [rb1 hb (by omega),rw4 hb (by omega),rw4 hb (by omega),rb2 hb (by omega),dt_app,dt_app b at_ 5 4,dt_app b at_ 9 2]
theorem flat_range {b:List Int} (a s:Nat) (f:Nat → List Int):∀ k,(∀ i,i < k → f i = (b.drop (a + s * i)).take s) → ((List.range k).map f).flatten = (b.drop a).take (s * k):=by
 intro k
 induction k with
 | zero=>intro _; simp
 | succ k ih =>
   intro h
   rw [List.range_succ,List.map_append,List.flatten_append,ih (fun i hi=>h i (by omega))]
   simp only [List.map_cons,List.map_nil,List.flatten_cons,List.flatten_nil,List.append_nil]
   rw [h k (by omega),dt_app,Nat.mul_succ]
theorem one_byte {x:Int} (h:0 ≤ x ∧ x < 256):numB 1 x = [x]:=by
 simp only [numB,bt_eq]
 rw [Int.pow_zero,Int.ediv_one,Int.emod_eq_of_lt h.1 h.2]
theorem orU_flags (x:Int) (h0:0 ≤ x) (h3:x ≤ 3):orU (flagI (oddI x) 1) (flagI (oddI (x / 2)) 2) = x:=by
 have:x = 0 ∨ x = 1 ∨ x = 2 ∨ x = 3:=by omega
 rcases this with rfl | rfl | rfl | rfl <;> decide
theorem flag_odd (x:Int) (h0:0 ≤ x) (h1:x ≤ 1):flagI (oddI x) 1 = x:=by
 have:x = 0 ∨ x = 1:=by omega
 rcases this with rfl | rfl <;> decide
theorem take1_eq {b:List Int} {at_:Nat} (h:at_ + 1 ≤ b.length) (hb:isB b):(b.drop at_).take 1 = [numZ b at_ 1]:=by
 have:=numAt_in hb at_ 1
 rw [numZ_of h,← numB_numAt hb at_ 1 h,one_byte (by omega)]
theorem bodyB_bodyR {h:Hdr} (ht:1 ≤ h.Ty ∧ h.Ty ≤ 5) {b:List Int} (hb:isB b) (hf:formB h b = true):bodyB (bodyR h b) = b:=by
 by_cases t1:h.Ty = 1
 · simp only [formB,if_pos t1,Bool.and_eq_true,decide_eq_true_eq] at hf
   obtain ⟨f1,f2⟩:=hf
   have hlen:2 ≤ b.length:=by omega
   have z0:=numZ_in hb 0 1
   have z1:=numZ_in hb 1 1
   rw [bodyB,bodyR_H,if_pos t1,bodyR,if_pos t1]
   simp only
   rw [orU_flags _ z0.1 f2,one_byte (by omega),List.length_map,List.length_range]
   rw [u64_id (x:=(((numZ b 1 1).toNat:Nat):Int)) (by omega),Int.toNat_of_nonneg z1.1,one_byte (by omega)]
   rw [List.map_map,flat_range (b:=b) 2 11 _ _ (fun i hi=>by
     show linkB (linkAt b (2 + 11 * i)) = _
     exact linkB_linkAt hb (by omega))]
   rw [← take1_eq (at_:=0) (by omega) hb,← take1_eq (at_:=1) (by omega) hb,List.drop_zero,take_parts,take_parts]
   exact List.take_of_length_le (by omega)
 by_cases t2:h.Ty = 2
 · simp only [formB,if_neg t1,if_pos t2,decide_eq_true_eq] at hf
   have z0:=numZ_in hb 0 1
   rw [bodyB,bodyR_H,if_neg t1,if_pos t2,bodyR,if_neg t1,if_pos t2]
   simp only
   rw [List.length_map,List.length_range]
   rw [u64_id (x:=(((numZ b 0 1).toNat:Nat):Int)) (by omega),Int.toNat_of_nonneg z0.1,one_byte (by omega)]
   rw [List.map_map,flat_range (b:=b) 1 4 _ _ (fun i hi=>by
     show attB (W32 (numZ b (1 + 4 * i) 4)) = _
     exact rw4 hb (by omega))]
   rw [← take1_eq (at_:=0) (by omega) hb,List.drop_zero,take_parts]
   exact List.take_of_length_le (by omega)
 by_cases t3:h.Ty = 3 ∨ h.Ty = 4
 · simp only [formB,if_neg t1,if_neg t2,if_pos t3,decide_eq_true_eq] at hf
   rw [bodyB,bodyR_H,if_neg t1,if_neg t2,if_pos t3,bodyR,if_neg t1,if_neg t2,if_pos t3]
   simp only
   rw [rb4 hb (by omega),List.drop_zero]
   exact List.take_of_length_le (by omega)
 · have t5:h.Ty = 5:=by omega
   simp only [formB,if_neg t1,if_neg t2,if_neg t3,Bool.and_eq_true,decide_eq_true_eq] at hf
   obtain ⟨f1,f2⟩:=hf
   have z0:=numZ_in hb 0 1
   rw [bodyB,bodyR_H,if_neg t1,if_neg t2,if_neg t3,if_pos t5,bodyR,if_neg t1,if_neg t2,if_neg t3]
   simp only
   rw [flag_odd _ z0.1 f2,one_byte (by omega),← take1_eq (at_:=0) (by omega) hb,rb4 hb (by omega),rw4 hb (by omega),rb4 hb (by omega),List.drop_zero,take_parts,take_parts,take_parts]
   exact List.take_of_length_le (by omega)
theorem numZ_app (a c:List Int) (n:Nat) (x:Int) (at_:Nat) (ha:a.length = at_):numZ (a ++ (numB n x ++ c)) at_ n = x % 256 ^ n:=by
 rw [numZ_of (by simp [numB_len]; omega),numAt_app a c n x at_ ha]
theorem chkKs_all {router:Int}:∀ {l:List Lnk} {p:Option Lnk},chkKs router p l = 0 → ∀ x ∈ l,(1 ≤ x.Kind ∧ x.Kind ≤ 3) ∧ (1 ≤ x.Cost ∧ x.Cost ≤ 65535):=by
 intro l
 induction l with
 | nil=>intro p _ x hx; simp at hx
 | cons y ys ih =>
   intro p h x hx
   unfold chkKs at h
   by_cases e:chkK y router = 0
   · rw [if_neg (by simp [e])] at h
     have hy:(1 ≤ y.Kind ∧ y.Kind ≤ 3) ∧ (1 ≤ y.Cost ∧ y.Cost ≤ 65535):=by
       unfold chkK at e
       by_cases e1:inR y.Kind 1 3 = false
       · rw [if_pos e1] at e; omega
       rw [if_neg e1] at e
       by_cases e2:inR y.Cost 1 65535 = false
       · rw [if_pos e2] at e; omega
       simp only [Bool.not_eq_false,inR_iff] at e1 e2
       exact ⟨e1,e2⟩
     rcases List.mem_cons.1 hx with rfl | hx
     · exact hy
     · cases p with
       | none=>exact ih h x hx
       | some q =>
         simp only at h
         by_cases e3:0 ≤ ordK q y
         · rw [if_pos e3] at h; omega
         · rw [if_neg e3] at h; exact ih h x hx
   · rw [if_pos (by simpa using e)] at h
     exact (e h).elim
theorem flat_len {α:Type} (l:List α) (f:α → List Int) (s:Nat) (hs:∀ x,(f x).length = s):(l.map f).flatten.length = s * l.length:=by
 induction l with
 | nil=>simp
 | cons x l ih=>simp only [List.map_cons,List.flatten_cons,List.length_append,hs,ih,List.length_cons,Nat.mul_succ]; omega
theorem flat_split {α:Type} (f:α → List Int) (l:List α) (s:Nat) (hs:∀ x,(f x).length = s) (i:Nat) (x:α) (hx:l[i]? = some x) :
   ∃ a c,(l.map f).flatten = a ++ (f x ++ c) ∧ a.length = s * i:=by
 refine ⟨((l.take i).map f).flatten,((l.drop (i + 1)).map f).flatten,?_,?_⟩
 · have hi:=(List.getElem?_eq_some_iff.1 hx).1
   have e:l = l.take i ++ (x :: l.drop (i + 1)):=by
     have h1:l.drop i = x :: l.drop (i + 1):=by
       rw [List.drop_eq_getElem_cons hi]
       congr 1
       exact (List.getElem?_eq_some_iff.1 hx).2
     rw [← h1,List.take_append_drop]
   conv=>lhs; rw [e]
   simp
 · have hi:=(List.getElem?_eq_some_iff.1 hx).1
   have:∀ k,k ≤ l.length → ((l.take k).map f).flatten.length = s * k:=by
     intro k
     induction k with
     | zero=>simp
     | succ k ih =>
       intro hk
       rw [List.take_add_one,List.getElem?_eq_getElem (show k < l.length by omega)]
       simp only [Option.toList,List.map_append,List.flatten_append,List.length_append,List.map_cons,List.map_nil,List.flatten_cons,List.flatten_nil,List.length_nil]
       rw [ih (by omega),hs,Nat.mul_succ]
       omega
   exact this i (by omega)
theorem linkAt_linkB {a c:List Int} {x:Lnk} (hk:(1 ≤ x.Kind ∧ x.Kind ≤ 3) ∧ (1 ≤ x.Cost ∧ x.Cost ≤ 65535)) (ok:okK x) {at_:Nat} (ha:a.length = at_):linkAt (a ++ (linkB x ++ c)) at_ = x:=by
 obtain ⟨k1,k2⟩:=ok
 unfold inW at k1 k2
 have e0:a ++ (linkB x ++ c) = a ++ (numB 1 (U x.Kind) ++ (numB 4 (U x.ID) ++ numB 4 (U x.Data) ++ numB 2 (U x.Cost) ++ c)):=by simp [linkB,List.append_assoc]
 have e1:a ++ (linkB x ++ c) = (a ++ numB 1 (U x.Kind)) ++ (numB 4 (U x.ID) ++ (numB 4 (U x.Data) ++ numB 2 (U x.Cost) ++ c)):=by simp [linkB,List.append_assoc]
 have e2:a ++ (linkB x ++ c) = (a ++ numB 1 (U x.Kind) ++ numB 4 (U x.ID)) ++ (numB 4 (U x.Data) ++ (numB 2 (U x.Cost) ++ c)):=by simp [linkB,List.append_assoc]
 have e3:a ++ (linkB x ++ c) = (a ++ numB 1 (U x.Kind) ++ numB 4 (U x.ID) ++ numB 4 (U x.Data)) ++ (numB 2 (U x.Cost) ++ c):=by simp [linkB,List.append_assoc]
 have r0:numZ (a ++ (linkB x ++ c)) at_ 1 = x.Kind:=by rw [e0,numZ_app _ _ _ _ _ ha,u64_id (by omega)]; omega
 have r1:numZ (a ++ (linkB x ++ c)) (at_ + 1) 4 = x.ID:=by rw [e1,numZ_app _ _ _ _ _ (by simp [numB_len]; omega),u64_id (by omega)]; omega
 have r2:numZ (a ++ (linkB x ++ c)) (at_ + 5) 4 = x.Data:=by rw [e2,numZ_app _ _ _ _ _ (by simp [numB_len]; omega),u64_id (by omega)]; omega
 have r3:numZ (a ++ (linkB x ++ c)) (at_ + 9) 2 = x.Cost:=by rw [e3,numZ_app _ _ _ _ _ (by simp [numB_len]; omega),u64_id (by omega)]; omega
 unfold linkAt
 rw [r0,r1,r2,r3,I64,wrap_i _ (by omega) (by omega),W32,W32,u32_id (by omega),u32_id (by omega),I64,wrap_i _ (by omega) (by omega)]
theorem memL_iff (l:List Int) (x:Int):memL l x = true ↔ x ∈ l:=by simp [memL]
theorem oddI_flag (b c:Bool):oddI (orU (flagI b 1) (flagI c 2)) = b ∧ oddI (orU (flagI b 1) (flagI c 2) / 2) = c ∧ 0 ≤ orU (flagI b 1) (flagI c 2) ∧ orU (flagI b 1) (flagI c 2) ≤ 3:=by
 cases b <;> cases c <;> decide
theorem oddI_flag1 (b:Bool):oddI (flagI b 1) = b ∧ 0 ≤ flagI b 1 ∧ flagI b 1 ≤ 1:=by cases b <;> decide
theorem forB_fields {l:Lsa} (h:forB l = false):(l.H.Ty ≠ 1 → l.Border = false ∧ l.Boundary = false ∧ l.Links = []) ∧ (l.H.Ty ≠ 2 → l.Att = []) ∧ (l.H.Ty < 3 → l.Cost = 0) ∧ (l.H.Ty ≠ 5 → l.Second = false ∧ l.Fwd = 0 ∧ l.Tag = 0):=by
 unfold forB at h
 by_cases e1:memL [1] l.H.Ty = false ∧ (l.Border = true ∨ l.Boundary = true ∨ 0 < l.Links.length)
 · rw [if_pos e1] at h; cases h
 rw [if_neg e1] at h
 by_cases e2:memL [2] l.H.Ty = false ∧ 0 < l.Att.length
 · rw [if_pos e2] at h; cases h
 rw [if_neg e2] at h
 by_cases e3:memL [3,4,5] l.H.Ty = false ∧ l.Cost ≠ 0
 · rw [if_pos e3] at h; cases h
 rw [if_neg e3] at h
 refine ⟨fun ht=>?_,fun ht=>?_,fun ht=>?_,fun ht=>?_⟩
 · have m:memL [1] l.H.Ty = false:=by rw [memL1]; simpa using ht
   simp only [m,true_and,not_or,Bool.not_eq_true] at e1
   exact ⟨e1.1,e1.2.1,List.eq_nil_of_length_eq_zero (by omega)⟩
 · have m:memL [2] l.H.Ty = false:=by rw [memL1]; simpa using ht
   simp only [m,true_and] at e2
   exact List.eq_nil_of_length_eq_zero (by omega)
 · have m:memL [3,4,5] l.H.Ty = false:=by
     cases hh:memL [3,4,5] l.H.Ty with
     | false=>rfl
     | true=>have:=(memL_iff _ _).1 hh; simp at this; omega
   simp only [m,true_and,ne_eq,Classical.not_not] at e3
   exact e3
 · have m:memL [5] l.H.Ty = false:=by rw [memL1]; simpa using ht
   rw [m] at h
   simp at h
   exact ⟨h.1.1,h.1.2,h.2⟩
theorem chkA_parts {l:Lsa} (h:chkA l = 0):chkH l.H = 0 ∧ forB l = false ∧ (l.H.Ty = 1 → chkKs l.H.Router none l.Links = 0) ∧ (3 ≤ l.H.Ty → (0 ≤ l.Cost ∧ l.Cost ≤ 16777216) ∧ (0 ≤ l.Tag ∧ l.Tag ≤ 4294967295)):=by
 unfold chkA at h
 by_cases e1:chkH l.H = 0
 case neg=>rw [if_pos e1] at h; exact (e1 h).elim
 rw [if_neg (by simp [e1])] at h
 by_cases e2:forB l = true
 · rw [if_pos e2] at h; omega
 rw [if_neg e2] at h
 refine ⟨e1,by simpa using e2,fun ht=>?_,fun ht=>?_⟩
 · rw [if_pos ht,chkLinks] at h
   split at h
   · omega
   · exact h
 · rw [if_neg (by omega),if_neg (by omega)] at h
   by_cases e3:inR l.Cost 0 16777216 = false ∨ inR l.Tag 0 4294967295 = false
   · rw [if_pos e3] at h; omega
   · simp only [not_or,Bool.not_eq_false,inR_iff] at e3
     exact e3
theorem bodyR_bodyB {l:Lsa} (ok:okA l) (hc:chkA l = 0):bodyR l.H (bodyB l) = l ∧ formB l.H (bodyB l) = true:=by
 obtain ⟨hl,ha⟩:=chkA_len hc
 obtain ⟨c1,c2,c3,c4⟩:=chkA_parts hc
 obtain ⟨⟨t1,t2⟩,_⟩:=chkH_ok c1
 obtain ⟨f1,f2,f3,f4⟩:=forB_fields c2
 obtain ⟨_,okL,okT,_,okF,_⟩:=ok
 obtain ⟨h,bo,bd,L,A,co,se,fw,tg⟩:=l
 simp only at *
 by_cases e1:h.Ty = 1
 · obtain ⟨o1,o2,o3,o4⟩:=oddI_flag bo bd
   have hA:=f2 (by omega)
   have hC:=f3 (by omega)
   obtain ⟨hS,hF,hT⟩:=f4 (by omega)
   subst hA hC hS hF hT
   have eb:bodyB ⟨h,bo,bd,L,[],0,false,0,0⟩ = numB 1 (orU (flagI bo 1) (flagI bd 2)) ++ (numB 1 (U L.length) ++ (L.map linkB).flatten):=by simp [bodyB,e1]
   rw [eb]
   have z0:numZ (numB 1 (orU (flagI bo 1) (flagI bd 2)) ++ (numB 1 (U L.length) ++ (L.map linkB).flatten)) 0 1 = orU (flagI bo 1) (flagI bd 2):=by
     have:=numZ_app [] (numB 1 (U L.length) ++ (L.map linkB).flatten) 1 (orU (flagI bo 1) (flagI bd 2)) 0 rfl
     rw [List.nil_append] at this
     rw [this]; omega
   have z1:numZ (numB 1 (orU (flagI bo 1) (flagI bd 2)) ++ (numB 1 (U L.length) ++ (L.map linkB).flatten)) 1 1 = L.length:=by
     rw [numZ_app _ _ _ _ _ (by simp [numB_len]),u64_id (by omega)]; omega
   have zl:(numB 1 (orU (flagI bo 1) (flagI bd 2)) ++ (numB 1 (U L.length) ++ (L.map linkB).flatten)).length = 2 + 11 * L.length:=by
     have:=flat_len L linkB 11 linkB_len
     simp only [List.length_append,numB_len]
     omega
   refine ⟨?_,?_⟩
   · rw [bodyR,if_pos e1,z0,z1,o1,o2]
     congr 1
     apply List.ext_getElem?
     intro i
     rw [List.getElem?_map,Int.toNat_natCast]
     by_cases hi:i < L.length
     · rw [List.getElem?_range hi,List.getElem?_eq_getElem hi,Option.map_some]
       congr 1
       obtain ⟨a,c,s1,s2⟩:=flat_split linkB L 11 linkB_len i L[i] (List.getElem?_eq_getElem hi)
       rw [s1]
       have hx:=chkKs_all (c3 e1) L[i] (List.getElem_mem hi)
       have:=linkAt_linkB (a:=numB 1 (orU (flagI bo 1) (flagI bd 2)) ++ (numB 1 (U L.length) ++ a)) (c:=c) hx (okL _ (List.getElem_mem hi)) (at_:=2 + 11 * i) (by simp [numB_len]; omega)
       simpa only [List.append_assoc] using this
     · rw [List.getElem?_eq_none (by simp; omega),List.getElem?_eq_none (by omega)]; rfl
   · rw [formB,if_pos e1,z0,z1,zl]
     simp [o4]
 by_cases e2:h.Ty = 2
 · obtain ⟨hB,hD,hL⟩:=f1 e1
   have hC:=f3 (by omega)
   obtain ⟨hS,hF,hT⟩:=f4 (by omega)
   subst hB hD hL hC hS hF hT
   have eb:bodyB ⟨h,false,false,[],A,0,false,0,0⟩ = numB 1 (U A.length) ++ (A.map attB).flatten:=by simp [bodyB,e2]
   rw [eb]
   have z0:numZ (numB 1 (U A.length) ++ (A.map attB).flatten) 0 1 = A.length:=by
     have:=numZ_app [] (A.map attB).flatten 1 (U A.length) 0 rfl
     rw [List.nil_append] at this
     rw [this,u64_id (by omega)]; omega
   have zl:(numB 1 (U A.length) ++ (A.map attB).flatten).length = 1 + 4 * A.length:=by
     have:=flat_len A attB 4 attB_len
     simp only [List.length_append,numB_len]
     omega
   refine ⟨?_,?_⟩
   · rw [bodyR,if_neg e1,if_pos e2,z0]
     congr 1
     apply List.ext_getElem?
     intro i
     rw [List.getElem?_map,Int.toNat_natCast]
     by_cases hi:i < A.length
     · rw [List.getElem?_range hi,List.getElem?_eq_getElem hi,Option.map_some]
       congr 1
       obtain ⟨a,c,s1,s2⟩:=flat_split attB A 4 attB_len i A[i] (List.getElem?_eq_getElem hi)
       rw [s1]
       have hx:=okT _ (List.getElem_mem hi)
       unfold inW at hx
       have:=numZ_app (numB 1 (U A.length) ++ a) c 4 (U A[i]) (1 + 4 * i) (by simp [numB_len]; omega)
       rw [u64_id (x:=A[i]) (by omega)] at this
       have e:numB 1 (U A.length) ++ (a ++ (attB A[i] ++ c)) = numB 1 (U A.length) ++ a ++ (numB 4 A[i] ++ c):=by
         simp only [attB,List.append_assoc]
         rw [u64_id (x:=A[i]) (by omega)]
       rw [e,this,W32,u32_id (by omega)]
       omega
     · rw [List.getElem?_eq_none (by simp; omega),List.getElem?_eq_none (by omega)]; rfl
   · rw [formB,if_neg e1,if_pos e2,z0,zl]
     simp
 obtain ⟨hB,hD,hL⟩:=f1 e1
 have hA:=f2 e2
 obtain ⟨cC,cT⟩:=c4 (by omega)
 subst hB hD hL hA
 by_cases e3:h.Ty = 3 ∨ h.Ty = 4
 · obtain ⟨hS,hF,hT⟩:=f4 (by omega)
   subst hS hF hT
   have eb:bodyB ⟨h,false,false,[],[],co,false,0,0⟩ = numB 4 (U co):=by simp [bodyB,e1,e2,e3]
   rw [eb]
   have z0:numZ (numB 4 (U co)) 0 4 = co:=by
     have:=numZ_app [] [] 4 (U co) 0 rfl
     rw [List.nil_append,List.append_nil] at this
     rw [this,u64_id (by omega)]; omega
   refine ⟨?_,?_⟩
   · rw [bodyR,if_neg e1,if_neg e2,if_pos e3,z0,I64,wrap_i _ (by omega) (by omega)]
   · rw [formB,if_neg e1,if_neg e2,if_pos e3,numB_len]; rfl
 · have e5:h.Ty = 5:=by omega
   obtain ⟨o1,o2,o3⟩:=oddI_flag1 se
   unfold inW at okF
   have eb:bodyB ⟨h,false,false,[],[],co,se,fw,tg⟩ = numB 1 (flagI se 1) ++ (numB 4 (U co) ++ (numB 4 (U fw) ++ numB 4 (U tg))):=by simp [bodyB,e5]
   rw [eb]
   have z0:numZ (numB 1 (flagI se 1) ++ (numB 4 (U co) ++ (numB 4 (U fw) ++ numB 4 (U tg)))) 0 1 = flagI se 1:=by
     have:=numZ_app [] (numB 4 (U co) ++ (numB 4 (U fw) ++ numB 4 (U tg))) 1 (flagI se 1) 0 rfl
     rw [List.nil_append] at this
     rw [this]; omega
   have z1:numZ (numB 1 (flagI se 1) ++ (numB 4 (U co) ++ (numB 4 (U fw) ++ numB 4 (U tg)))) 1 4 = co:=by
     rw [numZ_app _ _ _ _ _ (by simp [numB_len]),u64_id (by omega)]; omega
   have z2:numZ (numB 1 (flagI se 1) ++ (numB 4 (U co) ++ (numB 4 (U fw) ++ numB 4 (U tg)))) 5 4 = fw:=by
     have:=numZ_app (numB 1 (flagI se 1) ++ numB 4 (U co)) (numB 4 (U tg)) 4 (U fw) 5 (by simp [numB_len])
     rw [u64_id (x:=fw) (by omega)] at this
     rw [u64_id (x:=fw) (by omega)]
     simp only [List.append_assoc] at this
     rw [this]; omega
   have z3:numZ (numB 1 (flagI se 1) ++ (numB 4 (U co) ++ (numB 4 (U fw) ++ numB 4 (U tg)))) 9 4 = tg:=by
     have:=numZ_app (numB 1 (flagI se 1) ++ numB 4 (U co) ++ numB 4 (U fw)) [] 4 (U tg) 9 (by simp [numB_len])
     rw [u64_id (x:=tg) (by omega),List.append_nil] at this
     rw [u64_id (x:=tg) (by omega)]
     simp only [List.append_assoc] at this
     rw [this]; omega
   refine ⟨?_,?_⟩
   · rw [bodyR,if_neg e1,if_neg e2,if_neg e3,z0,z1,z2,z3,o1,I64,wrap_i _ (by omega) (by omega),W32,u32_id (by omega),I64,wrap_i _ (by omega) (by omega)]
   · rw [formB,if_neg e1,if_neg e2,if_neg e3,z0]
     simp [numB_len,o3]
end Go.Proofs.YtapgoboiljjecaaGreatDoor

namespace Go.Proofs.YtapgoboiljjecaaGreatDoor
open Go Go.Am
set_option linter.unusedSimpArgs false
def lsa0:Lsa:=⟨⟨0,0,0,0,0,0,0⟩,false,false,[],[],0,false,0,0⟩
def bodyAt (b:List Int):List Int:=(b.take (20 + (numAt b 18 2).toNat)).drop 20
def decL (b:List Int):Lsa × Nat × Int :=
 if b.length < 20 then (lsa0,0,3) else
 if inR (hdrAt b).Ty 1 5 = false then (lsa0,0,15) else
 if b.length < 20 + (numAt b 18 2).toNat then (lsa0,0,3) else
 if formB (hdrAt b) (bodyAt b) = false then (lsa0,0,2) else
 if chkA (bodyR (hdrAt b) (bodyAt b)) ≠ 0 then (lsa0,0,chkA (bodyR (hdrAt b) (bodyAt b))) else
 if (bodyR (hdrAt b) (bodyAt b)).H.Sum ≠ sumA (bodyR (hdrAt b) (bodyAt b)) then (lsa0,0,13) else
 (bodyR (hdrAt b) (bodyAt b),20 + (numAt b 18 2).toNat,0)
theorem inW_W32 (x:Int):inW (W32 x):=by
 have:W32 x = x % 4294967296:=rfl
 unfold inW; omega
theorem inI_I64 (x:Int):inI (I64 x):=by
 unfold inI I64; rw [IntKind.wrap_i64]; omega
theorem okH_hdrAt (b:List Int):okH (hdrAt b):=⟨inI_I64 _,inW_W32 _,inI_I64 _,inW_W32 _,inI_I64 _,inI_I64 _,inI_I64 _⟩
theorem inI_0:inI 0:=by unfold inI; omega
theorem inW_0:inW 0:=by unfold inW; omega
theorem okA_bodyR {h:Hdr} (hh:okH h) {b:List Int} (hb:isB b):okA (bodyR h b):=by
 have z0:=numZ_in hb 0 1
 have z1:=numZ_in hb 1 1
 unfold bodyR
 repeat' split
 · refine ⟨hh,?_,by simp,inI_0,inW_0,inI_0,by simp; omega,by simp⟩
   intro x hx
   obtain ⟨i,_,rfl⟩:=List.mem_map.1 hx
   exact ⟨inW_W32 _,inW_W32 _⟩
 · refine ⟨hh,by simp,?_,inI_0,inW_0,inI_0,by simp,by simp; omega⟩
   intro x hx
   obtain ⟨i,_,rfl⟩:=List.mem_map.1 hx
   exact inW_W32 _
 · exact ⟨hh,by simp,by simp,inI_I64 _,inW_0,inI_0,by simp,by simp⟩
 · exact ⟨hh,by simp,by simp,inI_I64 _,inW_W32 _,inI_I64 _,by simp,by simp⟩
theorem isB_bodyAt {b:List Int} (hb:isB b):isB (bodyAt b):=isB_drop (isB_take hb _) _
theorem decL_ok {b:List Int} (hb:isB b) (h:(decL b).2.2 = 0):20 ≤ b.length ∧ 20 + (numAt b 18 2).toNat ≤ b.length ∧ (1 ≤ (hdrAt b).Ty ∧ (hdrAt b).Ty ≤ 5) ∧ formB (hdrAt b) (bodyAt b) = true ∧
   chkA (bodyR (hdrAt b) (bodyAt b)) = 0 ∧ (bodyR (hdrAt b) (bodyAt b)).H.Sum = sumA (bodyR (hdrAt b) (bodyAt b)) ∧ decL b = (bodyR (hdrAt b) (bodyAt b),20 + (numAt b 18 2).toNat,0):=by
 unfold decL at h ⊢
 by_cases e1:b.length < 20
 · rw [if_pos e1] at h; simp at h
 rw [if_neg e1] at h ⊢
 by_cases e2:inR (hdrAt b).Ty 1 5 = false
 · rw [if_pos e2] at h; simp at h
 rw [if_neg e2] at h ⊢
 by_cases e3:b.length < 20 + (numAt b 18 2).toNat
 · rw [if_pos e3] at h; simp at h
 rw [if_neg e3] at h ⊢
 by_cases e4:formB (hdrAt b) (bodyAt b) = false
 · rw [if_pos e4] at h; simp at h
 rw [if_neg e4] at h ⊢
 by_cases e5:chkA (bodyR (hdrAt b) (bodyAt b)) = 0
 case neg=>rw [if_pos e5] at h; exact (e5 h).elim
 rw [if_neg (by simp [e5])] at h ⊢
 by_cases e6:(bodyR (hdrAt b) (bodyAt b)).H.Sum = sumA (bodyR (hdrAt b) (bodyAt b))
 case neg=>rw [if_pos e6] at h; simp at h
 rw [if_neg (by simp [e6])]
 simp only [Bool.not_eq_false,inR_iff] at e2 e4
 exact ⟨by omega,by omega,e2,e4,e5,e6,rfl⟩
theorem decL_bad {b:List Int} (h:(decL b).2.2 ≠ 0):(decL b).1 = lsa0 ∧ (decL b).2.1 = 0:=by
 unfold decL at h ⊢
 repeat' split
 all_goals first | exact ⟨rfl,rfl⟩ | (exfalso; apply h; repeat' split) <;> first | rfl | contradiction
theorem bodyAt_len {b:List Int} (h:20 + (numAt b 18 2).toNat ≤ b.length):(bodyAt b).length = (numAt b 18 2).toNat:=by
 simp only [bodyAt,List.length_drop,List.length_take]; omega
theorem bytesA_dec {b:List Int} (hb:isB b) (h:(decL b).2.2 = 0):bytesA (bodyR (hdrAt b) (bodyAt b)) = b.take (20 + (numAt b 18 2).toNat):=by
 obtain ⟨h1,h2,h3,h4,_,_,_⟩:=decL_ok hb h
 have hn:=numAt_in hb 18 2
 rw [bytesA,bodyR_H,bodyB_bodyR h3 (isB_bodyAt hb) h4,bodyAt_len h2,Int.toNat_of_nonneg hn.1,u64_id (by omega),hdrB_hdrAt hb (by omega),numB_numAt hb 18 2 (by omega),take_parts]
 have e:bodyAt b = (b.drop 20).take (numAt b 18 2).toNat:=by
   rw [bodyAt,List.drop_take,show 20 + (numAt b 18 2).toNat - 20 = (numAt b 18 2).toNat by omega]
 rw [e,take_parts b 20]
theorem decL_bytesA {s:Lsa} (ok:okA s) (hc:chkA s = 0) (hs:s.H.Sum = sumA s) (rest:List Int):decL (bytesA s ++ rest) = (s,(bytesA s).length,0):=by
 obtain ⟨hl,ha⟩:=chkA_len hc
 have hbl:=bodyB_len s hl ha
 obtain ⟨c1,_,_,_⟩:=chkA_parts hc
 obtain ⟨q1,q2⟩:=bodyR_bodyB ok hc
 obtain ⟨⟨t1,t2⟩,_⟩:=chkH_ok c1
 have eH:hdrAt (bytesA s ++ rest) = s.H:=by
   rw [bytesA,List.append_assoc,List.append_assoc]
   exact hdrAt_hdrB c1 ok.1.2.1 ok.1.2.2.2.1 _
 have eN:numAt (bytesA s ++ rest) 18 2 = (bodyB s).length:=by
   have:=numAt_app (hdrB s.H) (bodyB s ++ rest) 2 (U (bodyB s).length) 18 (hdrB_len _)
   rw [bytesA,List.append_assoc,List.append_assoc,this,u64_id (by omega)]
   omega
 have eL:(bytesA s).length = 20 + (bodyB s).length:=by simp only [bytesA,List.length_append,hdrB_len,numB_len]
 have eB:bodyAt (bytesA s ++ rest) = bodyB s:=by
   rw [bodyAt,eN,Int.toNat_natCast,List.take_append_of_le_length (by omega),List.take_of_length_le (by omega),bytesA,List.drop_append_of_le_length (by simp [hdrB_len,numB_len]),List.drop_of_length_le (by simp [hdrB_len,numB_len]),List.nil_append]
 unfold decL
 rw [eH,eN,eB,q1,q2,Int.toNat_natCast]
 rw [if_neg (by simp; omega),if_neg (by rw [Bool.not_eq_false,inR_iff]; exact ⟨t1,t2⟩),if_neg (by simp; omega),if_neg (by simp),if_neg (by simp [hc]),if_neg (by simp [hs]),eL]
end Go.Proofs.YtapgoboiljjecaaGreatDoor

namespace Go.Proofs.YtapgoboiljjecaaGreatDoor
open Go Go.Am
set_option linter.unusedSimpArgs false
end Go.Proofs.YtapgoboiljjecaaGreatDoor

namespace Go.Proofs.YtapgoboiljjecaaGreatDoor
open Go Go.Am
set_option linter.unusedSimpArgs false
def rdC (b:List Int) (at_:Nat):List AVal:=[encBs b,.int .i64 at_,.bool (!decide (at_ ≤ b.length))]
theorem n73 {H:List (List AVal)} {id:Nat} {b:List Int} {at_:Nat} (n:Nat) (hid:H[id]? = some (rdC b at_)) (hb:isB b) (hlen:b.length < 281474976710656) (ha:at_ < 281474976710656) (hn:n ≤ 8) :
   CFun Tryz.prog 24 [.ptr id 0,.int .i64 n] H (.int .u64 (numZ b at_ n)) (H.set id (rdC b (at_ + n))):=by
 have:=g73 (b:=b) (at_:=at_) (bad:=!decide (at_ ≤ b.length)) n hid hb hlen ha hn
 have e:(!decide (at_ ≤ b.length) || !decide (at_ + n ≤ b.length)) = !decide (at_ + n ≤ b.length):=by
   by_cases h:at_ + n ≤ b.length
   · simp [h,show at_ ≤ b.length by omega]
   · simp [h]
 rw [e] at this
 exact this
theorem rdC_le (n:Nat) (b:List Int) (x y:Nat) (h:x = y):LeCells n (rdC b x) (rdC b y):=by subst h; exact treeCells_le n rfl
def cellsZ (h:Hdr):List AVal:=[.int .i64 h.Ty,.int .u32 h.ID,.int .i64 h.Len,.int .u32 h.Router,.int .i64 h.Seq,.int .i64 h.Age,.int .i64 h.Sum,
 .bool false,.bool false,.sl 0 [] .full,.sl 0 [] .full,.int .i64 0,.bool false,.int .u32 0,.int .i64 0]
theorem bit1:∀ n:Fin 256,(IntKind.u64.wrap ↑((((n.val:Nat):Int) % 2 ^ IntKind.u64.bits).toNat &&& 1 % 2 ^ IntKind.u64.bits) != 0) = oddI ((n.val:Nat):Int):=by decide +kernel
theorem bit2:∀ n:Fin 256,(IntKind.u64.wrap ↑((((n.val:Nat):Int) % 2 ^ IntKind.u64.bits).toNat &&& 2 % 2 ^ IntKind.u64.bits) != 0) = oddI (((n.val:Nat):Int) / 2):=by decide +kernel
theorem bit3:∀ n:Fin 256,(IntKind.u64.wrap ↑((((n.val:Nat):Int) % 2 ^ IntKind.u64.bits).toNat &&& 2 ^ IntKind.u64.bits - 1 - 3 % 2 ^ IntKind.u64.bits) == 0) = decide (((n.val:Nat):Int) ≤ 3):=by decide +kernel
theorem bit4:∀ n:Fin 256,(IntKind.u64.wrap ↑((((n.val:Nat):Int) % 2 ^ IntKind.u64.bits).toNat &&& 2 ^ IntKind.u64.bits - 1 - 1 % 2 ^ IntKind.u64.bits) == 0) = decide (((n.val:Nat):Int) ≤ 1):=by decide +kernel
theorem bits_all (x:Int) (h:0 ≤ x ∧ x < 256):(IntKind.u64.wrap ↑((x % 2 ^ IntKind.u64.bits).toNat &&& 1 % 2 ^ IntKind.u64.bits) != 0) = oddI x ∧ (IntKind.u64.wrap ↑((x % 2 ^ IntKind.u64.bits).toNat &&& 2 % 2 ^ IntKind.u64.bits) != 0) = oddI (x / 2) ∧
   (IntKind.u64.wrap ↑((x % 2 ^ IntKind.u64.bits).toNat &&& 2 ^ IntKind.u64.bits - 1 - 3 % 2 ^ IntKind.u64.bits) == 0) = decide (x ≤ 3) ∧ (IntKind.u64.wrap ↑((x % 2 ^ IntKind.u64.bits).toNat &&& 2 ^ IntKind.u64.bits - 1 - 1 % 2 ^ IntKind.u64.bits) == 0) = decide (x ≤ 1):=by
 obtain ⟨n,rfl⟩:∃ n:Nat,x = n:=⟨x.toNat,by omega⟩
 have hn:n < 256:=by omega
 exact ⟨bit1 ⟨n,hn⟩,bit2 ⟨n,hn⟩,bit3 ⟨n,hn⟩,bit4 ⟨n,hn⟩⟩
def linksR (b:List Int) (i:Nat):List Lnk:=(List.range i).map (fun i=>linkAt b (2 + 11 * i))
theorem linksR_succ (b:List Int) (i:Nat):linksR b (i + 1) = linksR b i ++ [linkAt b (2 + 11 * i)]:=by simp [linksR,List.range_succ]
def attR (b:List Int) (i:Nat):List Int:=(List.range i).map (fun i=>W32 (numZ b (1 + 4 * i) 4))
theorem attR_succ (b:List Int) (i:Nat):attR b (i + 1) = attR b i ++ [W32 (numZ b (1 + 4 * i) 4)]:=by simp [attR,List.range_succ]
set_option maxHeartbeats 4000000 in
set_option maxRecDepth 10000 in
theorem c74 (h:Hdr) (b:List Int) (hb:isB b) (hlen:b.length < 281474976710656):CFun Tryz.prog 26 [.ptr 0 0,encBs b] [cellsZ h] (.bool (formB h b)) [cellsA (bodyR h b)]:=by
 refine CFun.intro (tr:=[50,78,1000050,2500052,2500055,2500058,2500061,1000078,2500080]) (fz:=[]) (n:=139) (rs:=[.tmp 4]) Tryz.func26 rfl (by kernel_rfl) rfl rfl mixed (by kernel_rfl) (by simp) (by simp [cellsZ]) ?_
 obtain ⟨m,hm⟩:∃ m,b.length = m:=⟨_,rfl⟩
 have hc:(b.length:Int) = m:=by omega
 have z0:=numZ_in hb 0 1
 obtain ⟨y1,y2,y3,y4⟩:=bits_all _ z0
 by_cases t1:h.Ty = 1
 · have z1:=numZ_in hb 1 1
   obtain ⟨k,hk⟩:∃ k:Nat,numZ b 1 1 = k:=⟨(numZ b 1 1).toNat,by omega⟩
   have w0:IntKind.i64.wrap (k:Int) = k:=wrap_in (by omega)
   have hx1:formB h b = (decide (2 + 11 * k = m) && decide (numZ b 0 1 ≤ 3)):=by rw [formB,if_pos t1,hk,hm,Int.toNat_natCast]
   have hx2:bodyR h b = ⟨h,oddI (numZ b 0 1),oddI (numZ b 0 1 / 2),linksR b k,[],0,false,0,0⟩:=by rw [bodyR,if_pos t1,hk,Int.toNat_natCast]; rfl
   rw [hx1,hx2]
   simp [cellsZ,t1]
   refine ⟨_,_,.inl (n73 (b:=b) (at_:=0) 1 (by simp [rdC]) hb (by omega) (by omega) (by omega)),by simp,?_⟩
   simp
   refine ⟨_,_,.inl (n73 (b:=b) (at_:=1) 1 (by simp [rdC]) hb (by omega) (by omega) (by omega)),by simp,?_⟩
   rw [hk]
   generalize hf:IntKind.u64.wrap ↑((numZ b 0 1 % 2 ^ IntKind.u64.bits).toNat &&& 2 ^ IntKind.u64.bits - 1 - 3 % 2 ^ IntKind.u64.bits) = fl at y3
   simp [y1,y2,w0,hf]
   clear y1 y2 y4 hf hx1 hx2
   refine LoopK.intro (tr:=[50,78,1000050,2500052,2500055,2500058,2500061,1000078,2500080]) mixed (by kernel_rfl) (fun i:Nat=>[(0,.ptr 0 0),(1,encBs b),(5,.ptr 1 0),(6,.int .u64 fl),(43,.int .i64 k),(44,.int .i64 i)])
     (fun i=>[[.int .i64 1,.int .u32 h.ID,.int .i64 h.Len,.int .u32 h.Router,.int .i64 h.Seq,.int .i64 h.Age,.int .i64 h.Sum,.bool (oddI (numZ b 0 1)),.bool (oddI (numZ b 0 1 / 2)),.sl 4 ((linksR b i).map encK) .own,.sl 0 [] .full,.int .i64 0,.bool false,.int .u32 0,.int .i64 0],rdC b (2 + 11 * i)])
     (fun i=>i ≤ k) (fun i=>k - i) 0 ?_ ?_ ?_
   · simp
   · simp [linksR,rdC]
   · rintro i h1
     by_cases hi:i < k
     · have w1:IntKind.i64.wrap ((i:Int) + 1) = i + 1:=wrap_in (by omega)
       have s1:(linksR b i).length + 1 ≤ 140737488355328:=by simp [linksR]; omega
       have s2:((linksR b i).length + 1) * 24 ≤ 140737488355328:=by simp [linksR]; omega
       simp [hi]
       refine ⟨_,_,.inl (n73 (b:=b) (at_:=2 + 11 * i) 1 (by simp) hb (by omega) (by omega) (by omega)),by simp,?_⟩
       simp
       refine ⟨_,_,.inl (n73 (b:=b) (at_:=2 + 11 * i + 1) 4 (by simp) hb (by omega) (by omega) (by omega)),by simp,?_⟩
       simp
       refine ⟨_,_,.inl (n73 (b:=b) (at_:=2 + 11 * i + 1 + 4) 4 (by simp) hb (by omega) (by omega) (by omega)),by simp,?_⟩
       simp
       refine ⟨_,_,.inl (n73 (b:=b) (at_:=2 + 11 * i + 1 + 4 + 4) 2 (by simp) hb (by omega) (by omega) (by omega)),by simp,?_⟩
       simp [s1,s2,w1]
       exact ⟨i + 1,by omega,by omega,by simp,by rw [linksR_succ]; simp [linkAt,I64,W32],rdC_le _ _ _ _ (by omega)⟩
     · have:i = k:=by omega
       subst this
       simp [rdC,hc,hm]
       have y3':fl = 0 ↔ numZ b 0 1 ≤ 3:=by rw [← beq_iff_eq,y3,decide_eq_true_eq]
       split
       · split
         · rename_i e
           have:=y3'.1 e
           rw [Bool.eq_iff_iff]; simp; omega
         · rename_i e
           have:=mt y3'.2 e
           omega
       · omega
 by_cases t2:h.Ty = 2
 · obtain ⟨k,hk⟩:∃ k:Nat,numZ b 0 1 = k:=⟨(numZ b 0 1).toNat,by omega⟩
   have w0:IntKind.i64.wrap (k:Int) = k:=wrap_in (by omega)
   have hx1:formB h b = decide (1 + 4 * k = m):=by rw [formB,if_neg t1,if_pos t2,hk,hm,Int.toNat_natCast]
   have hx2:bodyR h b = ⟨h,false,false,[],attR b k,0,false,0,0⟩:=by rw [bodyR,if_neg t1,if_pos t2,hk,Int.toNat_natCast]; rfl
   rw [hx1,hx2]
   simp [cellsZ,t2]
   refine ⟨_,_,.inl (n73 (b:=b) (at_:=0) 1 (by simp [rdC]) hb (by omega) (by omega) (by omega)),by simp,?_⟩
   rw [hk]
   simp [w0]
   clear y1 y2 y3 y4 hx1 hx2
   refine LoopK.intro (tr:=[50,78,1000050,2500052,2500055,2500058,2500061,1000078,2500080]) mixed (by kernel_rfl) (fun i:Nat=>[(0,.ptr 0 0),(1,encBs b),(5,.ptr 1 0),(6,.int .u64 0),(71,.int .i64 k),(72,.int .i64 i)])
     (fun i=>[[.int .i64 2,.int .u32 h.ID,.int .i64 h.Len,.int .u32 h.Router,.int .i64 h.Seq,.int .i64 h.Age,.int .i64 h.Sum,.bool false,.bool false,.sl 0 [] .full,.sl 1 ((attR b i).map enc32) .own,.int .i64 0,.bool false,.int .u32 0,.int .i64 0],rdC b (1 + 4 * i)])
     (fun i=>i ≤ k) (fun i=>k - i) 0 ?_ ?_ ?_
   · simp
   · simp [attR,rdC]
   · rintro i h1
     by_cases hi:i < k
     · have w1:IntKind.i64.wrap ((i:Int) + 1) = i + 1:=wrap_in (by omega)
       have s1:(attR b i).length + 1 ≤ 140737488355328:=by simp [attR]; omega
       have s2:((attR b i).length + 1) * 4 ≤ 140737488355328:=by simp [attR]; omega
       simp [hi]
       refine ⟨_,_,.inl (n73 (b:=b) (at_:=1 + 4 * i) 4 (by simp) hb (by omega) (by omega) (by omega)),by simp,?_⟩
       simp [s1,s2,w1]
       exact ⟨i + 1,by omega,by omega,by simp,by rw [attR_succ]; simp [W32],rdC_le _ _ _ _ (by omega)⟩
     · have:i = k:=by omega
       subst this
       simp [rdC,hc,hm]
       split
       · rw [Bool.eq_iff_iff]; simp; omega
       · omega
 by_cases t3:h.Ty = 3 ∨ h.Ty = 4
 · have hx1:formB h b = decide (4 = m):=by rw [formB,if_neg t1,if_neg t2,if_pos t3,hm]
   have hx2:bodyR h b = ⟨h,false,false,[],[],I64 (numZ b 0 4),false,0,0⟩:=by rw [bodyR,if_neg t1,if_neg t2,if_pos t3]
   rw [hx1,hx2]
   rcases t3 with t3 | t3
   all_goals
     simp [cellsZ,t3]
     refine ⟨_,_,.inl (n73 (b:=b) (at_:=0) 4 (by simp [rdC]) hb (by omega) (by omega) (by omega)),by simp,?_⟩
     simp [rdC,hc,hm,I64]
     split
     · rw [Bool.eq_iff_iff]; simp; omega
     · omega
 · have hx1:formB h b = (decide (13 = m) && decide (numZ b 0 1 ≤ 1)):=by rw [formB,if_neg t1,if_neg t2,if_neg t3,hm]
   have hx2:bodyR h b = ⟨h,false,false,[],[],I64 (numZ b 1 4),oddI (numZ b 0 1),W32 (numZ b 5 4),I64 (numZ b 9 4)⟩:=by rw [bodyR,if_neg t1,if_neg t2,if_neg t3]
   rw [hx1,hx2]
   have t3':¬ h.Ty = 3:=fun e=>t3 (.inl e)
   have t4':¬ h.Ty = 4:=fun e=>t3 (.inr e)
   simp [cellsZ,t1,t2,t3',t4']
   refine ⟨_,_,.inl (n73 (b:=b) (at_:=0) 1 (by simp [rdC]) hb (by omega) (by omega) (by omega)),by simp,?_⟩
   simp
   refine ⟨_,_,.inl (n73 (b:=b) (at_:=1) 4 (by simp) hb (by omega) (by omega) (by omega)),by simp,?_⟩
   simp
   refine ⟨_,_,.inl (n73 (b:=b) (at_:=5) 4 (by simp) hb (by omega) (by omega) (by omega)),by simp,?_⟩
   simp
   refine ⟨_,_,.inl (n73 (b:=b) (at_:=9) 4 (by simp) hb (by omega) (by omega) (by omega)),by simp,?_⟩
   simp [rdC,hc,hm,I64,W32,y1,y4]
   split
   · split
     · rw [Bool.eq_iff_iff]; simp; omega
     · omega
   · omega
end Go.Proofs.YtapgoboiljjecaaGreatDoor

namespace Go.Proofs.YtapgoboiljjecaaGreatDoor
open Go Go.Am
set_option linter.unusedSimpArgs false
end Go.Proofs.YtapgoboiljjecaaGreatDoor
