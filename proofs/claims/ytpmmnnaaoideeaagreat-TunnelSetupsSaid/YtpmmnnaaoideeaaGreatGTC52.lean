/- The reference's walks. -/
import Derived.Test.YtpmmnnaaoideeaaGreatGTC41
import Derived.Test.YtpmmnnaaoideeaaGreatGTC32
set_option linter.unusedSimpArgs false
set_option linter.unusedVariables false
namespace Go.Proofs.YtpmmnnaaoideeaaGreat
open Go Go.Am Go.Wk
structure Wlk where
  N:List Int
  C:Int
  D:Nat
def ceW (w:Wlk):List AVal:=[.sl 1 (w.N.map encI) .sh,.int .i64 w.C,.int .i64 w.D]
@[simp] def encW (w:Wlk):AVal:=.agg (ceW w)
@[simp] theorem ceW_len (w:Wlk):(ceW w).length = 3:=rfl
theorem eWe:Enc ceW 3:=⟨by decide,fun _=>rfl,fun _=>rfl,fun _=>rfl⟩
def stepW (w:Wlk) (x:Lnk) (c:Con):Wlk:=⟨w.N ++ [x.To],w.C + x.Cost,if c.Thru[w.D]? = some x.To then w.D + 1 else w.D⟩
def lastW (w:Wlk):Int:=w.N.getD (w.N.length - 1) 0
def betW (w x:Wlk):Bool:=decide (w.C < x.C) || decide (w.C = x.C) && decide (cmpI w.N x.N < 0)
def keepN:List Wlk → Wlk → List Wlk
 | [],w=>[w]
 | x :: l,w=>if lastW x = lastW w ∧ x.D = w.D then (if betW w x = true then w else x) :: l else x :: keepN l w
theorem keepN_at {w x:Wlk}:∀ {l:List Wlk} {i:Nat},l[i]? = some x → (∀ j y,j < i → l[j]? = some y → ¬ (lastW y = lastW w ∧ y.D = w.D)) → (lastW x = lastW w ∧ x.D = w.D) → keepN l w = l.set i (if betW w x = true then w else x):=by
 intro l
 induction l with
 | nil=>intro i h; simp at h
 | cons a l ih =>
   intro i h hn hx
   cases i with
   | zero =>
     simp at h
     subst h
     simp only [keepN,if_pos hx,List.set_cons_zero]
   | succ i =>
     have h0:=hn 0 a (by omega) rfl
     simp only [keepN,if_neg h0,List.set_cons_succ]
     rw [ih (by simpa using h) (fun j y hj hy=>hn (j + 1) y (by omega) (by simpa using hy)) hx]
end Go.Proofs.YtpmmnnaaoideeaaGreat

/- The reference's Route: what it keeps. -/
namespace Go.Proofs.YtpmmnnaaoideeaaGreat
open Go Go.Am Go.Wk
structure okW (n t h:Nat) (w:Wlk):Prop where
  len:w.N.length = h + 1
  lo:0 ≤ lastW w
  hi:lastW w < n
  c0:0 ≤ w.C
  c1:w.C ≤ 65535 * h
  d:w.D ≤ t
def codeW (n:Nat) (w:Wlk):Nat:=w.D * n + (lastW w).toNat
structure okNx (n t h:Nat) (l:List Wlk):Prop where
  w:∀ w ∈ l,okW n t h w
  nd:(l.map (codeW n)).Nodup
theorem code_inj {n t h h':Nat} {a b:Wlk} (ha:okW n t h a) (hb:okW n t h' b) (e:codeW n a = codeW n b):lastW a = lastW b ∧ a.D = b.D:=by
 unfold codeW at e
 have a1:=ha.lo; have a2:=ha.hi; have b1:=hb.lo; have b2:=hb.hi
 have n0:0 < n:=by omega
 have e1:(a.D * n + (lastW a).toNat) / n = a.D:=by rw [Nat.mul_comm,Nat.mul_add_div n0,Nat.div_eq_of_lt (by omega)]; rfl
 have e2:(b.D * n + (lastW b).toNat) / n = b.D:=by rw [Nat.mul_comm,Nat.mul_add_div n0,Nat.div_eq_of_lt (by omega)]; rfl
 have hd:a.D = b.D:=by rw [← e1,← e2,e]
 rw [hd] at e
 exact ⟨by omega,hd⟩
theorem code_lt {n t h:Nat} {w:Wlk} (ha:okW n t h w):codeW n w < n * (t + 1):=by
 have a1:=ha.lo; have a2:=ha.hi; have a3:=ha.d
 unfold codeW
 have:(w.D + 1) * n ≤ (t + 1) * n:=Nat.mul_le_mul_right n (by omega)
 rw [Nat.succ_mul] at this
 rw [Nat.mul_comm n]
 omega
theorem okNx.length {n t h:Nat} {l:List Wlk} (hl:okNx n t h l):l.length ≤ n * (t + 1):=by
 have:=nodup_length hl.nd (n:=n * (t + 1)) (fun x hx=>by
   obtain ⟨w,hw,rfl⟩:=List.mem_map.1 hx
   exact code_lt (hl.w w hw))
 simpa using this
theorem keepN_cases (l:List Wlk) (w:Wlk):(∃ i x,l[i]? = some x ∧ lastW x = lastW w ∧ x.D = w.D ∧ keepN l w = l.set i (if betW w x = true then w else x)) ∨ ((∀ y ∈ l,¬ (lastW y = lastW w ∧ y.D = w.D)) ∧ keepN l w = l ++ [w]):=by
 induction l with
 | nil=>exact .inr ⟨by simp,rfl⟩
 | cons a l ih =>
   by_cases h:lastW a = lastW w ∧ a.D = w.D
   · exact .inl ⟨0,a,rfl,h.1,h.2,by simp only [keepN,if_pos h,List.set_cons_zero]⟩
   · rcases ih with ⟨i,x,h1,h2,h3,h4⟩ | ⟨h1,h2⟩
     · exact .inl ⟨i + 1,x,by simpa using h1,h2,h3,by simp only [keepN,if_neg h,h4,List.set_cons_succ]⟩
     · refine .inr ⟨fun y hy=>?_,by simp only [keepN,if_neg h,h2,List.cons_append]⟩
       rcases List.mem_cons.1 hy with rfl | hy
       · exact h
       · exact h1 y hy
theorem okNx.keep {n t h:Nat} {l:List Wlk} (hl:okNx n t h l) {w:Wlk} (hw:okW n t h w):okNx n t h (keepN l w):=by
 rcases keepN_cases l w with ⟨i,x,h1,h2,h3,h4⟩ | ⟨h1,h2⟩
 · rw [h4]
   have hx:=hl.w x (List.mem_of_getElem? h1)
   have hlt:=(List.getElem?_eq_some_iff.1 h1).1
   refine ⟨fun y hy=>?_,?_⟩
   · rcases List.mem_or_eq_of_mem_set hy with hy | rfl
     · exact hl.w y hy
     · split
       · exact hw
       · exact hx
   · have e:(l.set i (if betW w x = true then w else x)).map (codeW n) = l.map (codeW n):=by
       apply List.ext_getElem?
       intro j
       simp only [List.getElem?_map,List.getElem?_set]
       by_cases ej:i = j
       · subst ej
         rw [if_pos rfl,if_pos hlt,h1]
         have:codeW n w = codeW n x:=by unfold codeW; rw [h2,h3]
         split <;> simp [this]
       · rw [if_neg ej]
     rw [e]
     exact hl.nd
 · rw [h2]
   refine ⟨fun y hy=>?_,?_⟩
   · rcases List.mem_append.1 hy with hy | hy
     · exact hl.w y hy
     · simp at hy; subst hy; exact hw
   · rw [List.map_append,List.nodup_append]
     refine ⟨hl.nd,by simp,fun a ha b hb e=>?_⟩
     simp at hb
     obtain ⟨y,hy,rfl⟩:=List.mem_map.1 ha
     exact h1 y hy (code_inj (hl.w y hy) hw (e.trans hb))
theorem lastW_get {n t h:Nat} {w:Wlk} (hw:okW n t h w):w.N.getD h 0 = lastW w ∧ w.N[h]? = some (lastW w):=by
 have:lastW w = w.N.getD h 0:=by unfold lastW; rw [hw.len,Nat.add_sub_cancel]
 refine ⟨this.symm,?_⟩
 rw [this]
 exact getD_ofI (by rw [hw.len]; omega)
theorem okW.step {n t h:Nat} {w:Wlk} (hw:okW n t h w) {x:Lnk} (hx:okLk n x) {c:Con} (ht:c.Thru.length = t):okW n t (h + 1) (stepW w x c):=by
 obtain ⟨o1,o2,o3,o4,o5,o6⟩:=hx
 have hl:lastW (stepW w x c) = x.To:=by
   unfold lastW stepW
   simp
 refine ⟨by simp [stepW,hw.len],by rw [hl]; exact o3,by rw [hl]; exact o4,?_,?_,?_⟩
 · have:=hw.c0; simp only [stepW]; omega
 · have:=hw.c1; simp only [stepW]; omega
 · have:=hw.d
   simp only [stepW]
   split
   · rename_i e
     have:=(List.getElem?_eq_some_iff.1 e).1
     omega
   · omega
def linkR (c:Con) (w:Wlk) (nx:List Wlk) (x:Lnk):List Wlk:=if x.From = lastW w ∧ usableN x c = true then keepN nx (stepW w x c) else nx
def linksR (l:List Lnk) (c:Con) (nx:List Wlk) (w:Wlk):List Wlk:=l.foldl (linkR c w) nx
def nextR (l:List Lnk) (c:Con) (at_:List Wlk):List Wlk:=at_.foldl (linksR l c) []
def lessB (b:Option Wlk) (w:Wlk):Bool:=match b with
 | none=>true
 | some q=>decide (w.C < q.C)
def bestS (to:Int) (t:Nat) (b:Option Wlk) (w:Wlk):Option Wlk:=if lastW w = to ∧ w.D = t ∧ lessB b w = true then some w else b
def bestR (to:Int) (t:Nat) (b:Option Wlk) (at_:List Wlk):Option Wlk:=at_.foldl (bestS to t) b
theorem linkR_ok {n t h:Nat} {c:Con} (ht:c.Thru.length = t) {w:Wlk} (hw:okW n t h w) {nx:List Wlk} (hn:okNx n t (h + 1) nx) {x:Lnk} (hx:okLk n x):okNx n t (h + 1) (linkR c w nx x):=by
 unfold linkR
 split
 · exact hn.keep (hw.step hx ht)
 · exact hn
theorem linksR_ok {n t h:Nat} {c:Con} (ht:c.Thru.length = t) {w:Wlk} (hw:okW n t h w):∀ {l:List Lnk},(∀ x ∈ l,okLk n x) → ∀ {nx:List Wlk},okNx n t (h + 1) nx → okNx n t (h + 1) (linksR l c nx w):=by
 intro l
 induction l with
 | nil=>intro _ nx hn; exact hn
 | cons x l ih =>
   intro hl nx hn
   exact ih (fun y hy=>hl y (List.mem_cons_of_mem _ hy)) (linkR_ok ht hw hn (hl x (by simp)))
theorem okNx_nil (n t h:Nat):okNx n t h []:=⟨by simp,by simp⟩
theorem foldl_inv {α β:Type} {f:β → α → β} {p:β → Prop} {q:α → Prop} (hf:∀ b a,p b → q a → p (f b a)):∀ {l:List α} {b:β},p b → (∀ a ∈ l,q a) → p (l.foldl f b):=by
 intro l
 induction l with
 | nil=>intro b h _; exact h
 | cons a l ih=>intro b h hq; exact ih (hf b a h (hq a (by simp))) (fun x hx=>hq x (List.mem_cons_of_mem _ hx))
theorem nextR_ok {n t h:Nat} {c:Con} (ht:c.Thru.length = t) {l:List Lnk} (hl:∀ x ∈ l,okLk n x) {at_:List Wlk} (ha:∀ w ∈ at_,okW n t h w):okNx n t (h + 1) (nextR l c at_) :=
 foldl_inv (p:=okNx n t (h + 1)) (q:=okW n t h) (fun _ _ hb hw=>linksR_ok ht hw hl hb) (okNx_nil n t (h + 1)) ha
def loopR (l:List Lnk) (c:Con) (to:Int) (sz:Nat):Nat → Nat → List Wlk → Option Wlk → Option Wlk
 | 0,_,_,b=>b
 | f + 1,h,at_,b=>if at_ ≠ [] ∧ h < sz ∧ (c.Hops = 0 ∨ (h:Int) ≤ c.Hops) then loopR l c to sz f (h + 1) (nextR l c at_) (bestR to c.Thru.length b at_) else b
def firstW (fr:Int) (c:Con):Wlk:=⟨[fr],0,if c.Thru[0]? = some fr then 1 else 0⟩
def refN (n:Int) (l:List Lnk) (fr to:Int) (c:Con):List Int × Int × Int :=
 if checkE n l c ≠ 0 then ([],0,checkE n l c) else if (outN n fr || outN n to) = true then ([],0,5)
 else match loopR l c to (n.toNat * (c.Thru.length + 1)) (n.toNat * (c.Thru.length + 1) + 1) 0 (if hasB c.Avoid fr = true then [] else [firstW fr c]) none with
   | none=>([],0,20)
   | some w=>if repB w.N = true then ([],0,10) else (w.N,w.C,0)
end Go.Proofs.YtpmmnnaaoideeaaGreat

/- The least walk exists; it has no state twice. No program. -/
namespace Go.Wk
theorem exists_least {P:Nat → Prop}:∀ {n:Nat},P n → ∃ m,P m ∧ ∀ k,P k → m ≤ k:=by
 intro n
 induction n using Nat.strongRecOn with
 | ind n ih =>
   intro hn
   by_cases h:∃ k,k < n ∧ P k
   · obtain ⟨k,h1,h2⟩:=h
     exact ih k h1 h2
   · refine ⟨n,hn,fun k hk=>?_⟩
     rcases Nat.lt_or_ge k n with h1 | h1
     · exact absurd ⟨k,h1,hk⟩ h
     · exact h1
theorem Dn.exists {E:List Arc} {z x c:Nat} {ys:List Nat} (hw:W E x ys c z):∃ d h,Dn E z x d h:=by
 obtain ⟨d,⟨ys1,h1⟩,h2⟩:=exists_least (P:=fun d=>∃ zs,W E x zs d z) ⟨ys,hw⟩
 obtain ⟨h,⟨ys2,h3,h4⟩,h5⟩:=exists_least (P:=fun h=>∃ zs,W E x zs d z ∧ zs.length = h) ⟨ys1,h1,rfl⟩
 refine ⟨d,h,⟨ys2,h3,h4⟩,fun zs e k=>?_⟩
 have k1:=h2 e ⟨zs,k⟩
 rcases Nat.lt_or_ge d e with k2 | k2
 · exact .inl k2
 · have:d = e:=by omega
   subst this
   exact .inr ⟨rfl,h5 _ ⟨zs,k,rfl⟩⟩
theorem W.simple2 {E:List Arc} (hE:∀ a ∈ E,1 ≤ a.2.2):∀ {n:Nat} {ys:List Nat} {x z c:Nat},ys.length ≤ n → W E x ys c z → (x :: ys).Nodup ∨ ∃ zs d,W E x zs d z ∧ d < c ∧ zs.length ≤ ys.length:=by
 intro n
 induction n with
 | zero =>
   intro ys x z c hn h
   have:ys = []:=List.length_eq_zero_iff.1 (by omega)
   subst this
   exact .inl (by simp)
 | succ n ih =>
   intro ys x z c hn h
   cases ys with
   | nil=>exact .inl (by simp)
   | cons y ys =>
     obtain ⟨a,d,h1,h2,rfl⟩:=h.cons_inv
     simp at hn
     rcases ih hn h2 with h3 | ⟨zs,e,h3,h4,h5⟩
     · by_cases hx:x ∈ y :: ys
       · obtain ⟨l,r,hl⟩:=List.append_of_mem hx
         have h':W E x ((y :: ys)) (a + d) z:=h
         rw [hl] at h'
         obtain ⟨u,p,q,k1,k2,k3⟩:=h'.split
         obtain ⟨b,e,k4,k5,k6⟩:=k2.cons_inv
         refine .inr ⟨r,e,k5,?_,?_⟩
         · have:=hE _ k4
           simp at this
           omega
         · rw [hl]; simp; omega
       · exact .inl (List.nodup_cons.2 ⟨hx,h3⟩)
     · exact .inr ⟨y :: zs,a + e,.cons h1 h3,by omega,by simp; omega⟩
theorem Best.simple {E:List Arc} (hE:∀ a ∈ E,1 ≤ a.2.2) {nd:Nat → Nat} {lim:Nat → Prop} (hlim:∀ a b,a ≤ b → lim b → lim a) {x z:Nat} {ys:List Nat} {c:Nat} (h:Best E nd lim x z ys c):(x :: ys).Nodup:=by
 rcases W.simple2 hE (Nat.le_refl _) h.w with h1 | ⟨zs,d,h1,h2,h3⟩
 · exact h1
 · have:=h.le _ _ h1 (hlim _ _ h3 h.l)
   omega
theorem W.simple_len {E:List Arc} {n:Nat} (hn:∀ a ∈ E,a.2.1 < n) {x z c:Nat} {ys:List Nat} (hx:x < n) (h:W E x ys c z) (hd:(x :: ys).Nodup):ys.length < n:=by
 have:=nodup_length hd (n:=n) (fun y hy=>by
   rcases List.mem_cons.1 hy with rfl | hy
   · exact hx
   · obtain ⟨u,a,k⟩:=h.mem hy
     exact hn _ k)
 simp at this
 omega
theorem W.short {E:List Arc} (hE:∀ a ∈ E,1 ≤ a.2.2) {n:Nat} (hn:∀ a ∈ E,a.2.1 < n) {x z:Nat} (hx:x < n):∀ {c:Nat} {ys:List Nat},W E x ys c z → ys.length < n ∨ ∃ zs d,W E x zs d z ∧ d < c ∧ zs.length ≤ ys.length ∧ zs.length < n:=by
 intro c
 induction c using Nat.strongRecOn with
 | ind c ih =>
   intro ys h
   rcases W.simple2 hE (Nat.le_refl _) h with h1 | ⟨zs,d,h1,h2,h3⟩
   · exact .inl (h.simple_len hn hx h1)
   · rcases ih d h2 h1 with h4 | ⟨us,e,k1,k2,k3,k4⟩
     · exact .inr ⟨zs,d,h1,h2,h3,h4⟩
     · exact .inr ⟨us,e,k1,by omega,by omega,k4⟩
theorem Best.of_short {E:List Arc} (hE:∀ a ∈ E,1 ≤ a.2.2) {n:Nat} (hn:∀ a ∈ E,a.2.1 < n) {nd:Nat → Nat} {lim:Nat → Prop} (hlim:∀ a b,a ≤ b → lim b → lim a) {x z:Nat} (hx:x < n) {ys:List Nat} {c:Nat} (h:Best E nd (fun k=>k < n ∧ lim k) x z ys c):Best E nd lim x z ys c:=by
 refine ⟨h.w,h.l.2,fun zs d h1 h2=>?_⟩
 rcases h1.short hE hn hx with h3 | ⟨us,e,k1,k2,k3,k4⟩
 · exact h.le _ _ h1 ⟨h3,h2⟩
 · have:=h.le _ _ k1 ⟨k4,hlim _ _ k3 h2⟩
   omega
theorem find_least {α:Type} {R:α → α → Prop} {p:α → Bool}:∀ {l:List α} {x:α},l.Pairwise R → l.find? p = some x → ∀ y ∈ l,p y = true → y = x ∨ R x y:=by
 intro l
 induction l with
 | nil=>intro x _ h; simp at h
 | cons a l ih =>
   intro x hp h y hy py
   obtain ⟨h1,h2⟩:=List.pairwise_cons.1 hp
   by_cases pa:p a = true
   · rw [List.find?_cons_of_pos pa] at h
     injection h with h
     subst h
     rcases List.mem_cons.1 hy with rfl | hy
     · exact .inl rfl
     · exact .inr (h1 y hy)
   · rw [List.find?_cons_of_neg pa] at h
     rcases List.mem_cons.1 hy with rfl | hy
     · exact absurd py pa
     · exact ih h2 h y hy py
end Go.Wk

/- What the search finds is the least walk. No program. -/
namespace Go.Proofs.YtpmmnnaaoideeaaGreat
open Go Go.Am Go.Wk
theorem ent_div {th:List Int} {n a k:Nat} (ha:a < n):entN th n a k / n = entK th a k:=by
 unfold entN
 rw [Nat.mul_comm,Nat.mul_add_div (by omega),Nat.div_eq_of_lt ha]
 rfl
theorem ent_mod {th:List Int} {n a k:Nat} (ha:a < n):entN th n a k % n = a:=by
 unfold entN
 rw [Nat.mul_comm,Nat.mul_add_mod,Nat.mod_eq_of_lt ha]
theorem arc_mem {ls:List Lnk} {th:List Int} {n:Nat} {a:Arc}:a ∈ arcsN ls th n ↔ ∃ k,k ≤ th.length ∧ ∃ l ∈ ls,arcN th n k l = a:=by
 unfold arcsN
 simp only [List.mem_flatMap,List.mem_range,List.mem_map]
 constructor
 · rintro ⟨k,h1,l,h2,h3⟩
   exact ⟨k,by omega,l,h2,h3⟩
 · rintro ⟨k,h1,l,h2,h3⟩
   exact ⟨k,by omega,l,h2,h3⟩
section
variable {ls:List Lnk} {th:List Int} {n:Nat} (hls:∀ x ∈ ls,okLk n x)
include hls
theorem arc_inv {x y a:Nat} (h:(x,y,a) ∈ arcsN ls th n):x / n ≤ th.length ∧ ∃ l ∈ ls,l.From.toNat = x % n ∧ y = entN th n l.To.toNat (x / n) ∧ (a:Int) = l.Cost ∧ l.From = ((x % n:Nat):Int) ∧ l.To = ((y % n:Nat):Int) ∧ l.To.toNat < n:=by
 obtain ⟨k,h1,l,h2,h3⟩:=arc_mem.1 h
 obtain ⟨o1,o2,o3,o4,o5,o6⟩:=hls l h2
 unfold arcN at h3
 simp only [Prod.mk.injEq] at h3
 obtain ⟨rfl,rfl,rfl⟩:=h3
 have hf:l.From.toNat < n:=by omega
 have e1:(k * n + l.From.toNat) / n = k:=by rw [Nat.mul_comm,Nat.mul_add_div (by omega),Nat.div_eq_of_lt hf]; rfl
 have e2:(k * n + l.From.toNat) % n = l.From.toNat:=by rw [Nat.mul_comm,Nat.mul_add_mod,Nat.mod_eq_of_lt hf]
 have e3:=ent_mod (th:=th) (k:=k) (show l.To.toNat < n by omega)
 rw [e1,e2,e3]
 exact ⟨h1,l,h2,rfl,rfl,by omega,by omega,by omega,by omega⟩
omit hls in
theorem arc_of {x:Nat} (hx:x / n ≤ th.length) {l:Lnk} (hl:l ∈ ls) (hf:l.From.toNat = x % n):(x,entN th n l.To.toNat (x / n),l.Cost.toNat) ∈ arcsN ls th n:=by
 refine arc_mem.2 ⟨x / n,hx,l,hl,?_⟩
 unfold arcN
 rw [hf]
 have:=Nat.div_add_mod x n
 rw [Nat.mul_comm] at this
 rw [this]
theorem arcs_inj (hs:ls.Pairwise fun x y=>x.From < y.From ∨ x.From = y.From ∧ x.To < y.To) {x y y' a a':Nat} (h:(x,y,a) ∈ arcsN ls th n) (h':(x,y',a') ∈ arcsN ls th n) (e:y % n = y' % n):y = y' ∧ a = a':=by
 obtain ⟨_,l,l1,l2,l3,l4,l5,l6,l7⟩:=arc_inv hls h
 obtain ⟨_,m,m1,m2,m3,m4,m5,m6,m7⟩:=arc_inv hls h'
 have:l = m:=by
   have hl:ls.find? (fun z=>decide (z.From = l.From) && decide (z.To = l.To)) = some l:=by
     cases hf:ls.find? (fun z=>decide (z.From = l.From) && decide (z.To = l.To)) with
     | none=>exact absurd (List.find?_eq_none.1 hf l l1) (by simp)
     | some z =>
       have hz:=List.find?_some hf
       simp only [Bool.and_eq_true,decide_eq_true_eq] at hz
       have:=find_least hs hf l l1 (by simp)
       rcases this with rfl | h1
       · rfl
       · omega
   have hm:(decide (m.From = l.From) && decide (m.To = l.To)) = true:=by
     simp only [Bool.and_eq_true,decide_eq_true_eq]
     rw [l5,l6,m5,m6,e]
     exact ⟨rfl,rfl⟩
   rcases find_least hs hl m m1 hm with h1 | h1
   · exact h1.symm
   · simp only [Bool.and_eq_true,decide_eq_true_eq] at hm
     omega
 subst this
 exact ⟨by rw [l3,m3],by omega⟩
theorem folN_fol (hs:ls.Pairwise fun x y=>x.From < y.From ∨ x.From = y.From ∧ x.To < y.To) {z:Nat} (gd:Nat → Nat → Int → Nat → Bool) (P:Nat → Nat → Nat → Prop)
   (hPm:∀ h x c,P h x c → Mn (arcsN ls th n) z h x c)
   (hgd:∀ h x c y (a:Nat),P (h + 1) x c → (x,y,a) ∈ arcsN ls th n → (gd x y a (h + 1) = true ↔ ∃ d,Mn (arcsN ls th n) z h y d ∧ c = a + d))
   (hPs:∀ h x c y a d,P (h + 1) x c → (x,y,a) ∈ arcsN ls th n → Mn (arcsN ls th n) z h y d → c = a + d → P h y d) :
   ∀ h x c,P h x c → ∃ ys,Fol (arcsN ls th n) (· % n) z h x c ys ∧ folN ls th n gd h x = ys.map fun s=>((s % n:Nat):Int):=by
 intro h
 induction h with
 | zero =>
   intro x c hp
   obtain ⟨⟨ys,h1,h2⟩,_⟩:=hPm _ _ _ hp
   have:ys = []:=List.length_eq_zero_iff.1 h2
   subst this
   obtain ⟨rfl,rfl⟩:=h1.nil_inv
   exact ⟨[],.nil _,rfl⟩
 | succ h ih =>
   intro x c hp
   have hm:=hPm _ _ _ hp
   obtain ⟨ys,h1,h2⟩:=hm.1
   cases ys with
   | nil=>simp at h2
   | cons y ys =>
     obtain ⟨a,d,k1,k2,k3⟩:=h1.cons_inv
     simp at h2
     have k4:=hm.tail k1 k2 h2 k3
     have k5:=(hgd _ _ _ _ _ hp k1).2 ⟨d,k4,k3⟩
     obtain ⟨xk,l,l1,l2,l3,l4,l5,l6,l7⟩:=arc_inv hls k1
     have k6:pickL th n gd x (h + 1) l = true:=by
       unfold pickL
       rw [← l3,← l4,k5,l2]
       simp
     simp only [folN]
     cases hf:ls.find? (pickL th n gd x (h + 1)) with
     | none=>exact absurd (List.find?_eq_none.1 hf l l1) (by simp [k6])
     | some m =>
       have m1:=List.mem_of_find?_eq_some hf
       have m2:=List.find?_some hf
       unfold pickL at m2
       simp only [Bool.and_eq_true,decide_eq_true_eq] at m2
       obtain ⟨m3,m4⟩:=m2
       have ma:=arc_of xk m1 m3
       obtain ⟨o1,o2,o3,o4,o5,o6⟩:=hls m m1
       have mc:((m.Cost.toNat:Nat):Int) = m.Cost:=by omega
       rw [← mc] at m4
       obtain ⟨e,e1,e2⟩:=(hgd _ _ _ _ _ hp ma).1 m4
       have hp':=hPs _ _ _ _ _ _ hp ma e1 e2
       obtain ⟨us,u1,u2⟩:=ih _ _ hp'
       have em:=ent_mod (th:=th) (k:=x / n) (show m.To.toNat < n by omega)
       refine ⟨entN th n m.To.toNat (x / n) :: us,?_,?_⟩
       · rw [e2]
         refine .cons ma e1 (fun y' a' c' q1 q2 q3=>?_) u1
         have q4:=(hgd _ _ _ _ _ hp q1).2 ⟨c',q2,by omega⟩
         obtain ⟨_,l',p1,p2,p3,p4,p5,p6,p7⟩:=arc_inv hls q1
         have q5:pickL th n gd x (h + 1) l' = true:=by
           unfold pickL
           rw [← p3,← p4,q4,p2]
           simp
         show entN th n m.To.toNat (x / n) % n ≤ y' % n
         rw [em]
         rcases find_least hs hf l' p1 q5 with rfl | q6
         · rw [p6]; simp
         · omega
       · show m.To :: folN ls th n gd h (entN th n m.To.toNat (x / n)) = _
         rw [u2,List.map_cons,em]
         congr 1
         show m.To = _
         omega
end
end Go.Proofs.YtpmmnnaaoideeaaGreat

/- What the search finds is the least walk within the limit of steps. No program. -/
namespace Go.Proofs.YtpmmnnaaoideeaaGreat
open Go Go.Am Go.Wk
theorem bestO_no {E:List Arc} {z x:Nat} (h:bestO E z x = none) {ys:List Nat} {c:Nat}:¬ W E x ys c z:=by
 intro hw
 obtain ⟨d,k,hd⟩:=Dn.exists hw
 rw [bestO_some hd] at h
 cases h
theorem blB_getD (B:Nat → Option (Nat × Nat)) {sz x:Nat} (h:x < sz):(blB B sz).getD x (0,0) = encB B x:=by
 rw [List.getD_eq_getElem?_getD,blB_get B h]
 rfl
theorem rowAt_mn (E:List Arc) (z:Nat) {sz m h x:Nat} (hh:h < m) (hx:x < sz):rowAt (mnRows E z sz m) h x = encO (mnO E z h x):=by
 unfold rowAt
 have:(mnRows E z sz m).getD h [] = mnRow E z sz h:=by rw [List.getD_eq_getElem?_getD,mnRows_get E z sz hh]; rfl
 rw [this,mnRow_get E z h hx]
def limH (most:Int) (k:Nat):Prop:=most = 0 ∨ (k:Int) ≤ most
theorem limH_mono (most:Int):∀ a b,a ≤ b → limH most b → limH most a:=by
 intro a b h k
 unfold limH at *
 omega
theorem totR_least (f:Nat → Int) (hf:∀ k,-1 ≤ f k):∀ m,((totR f m).1 < 0 → ∀ k,k < m → f k < 0) ∧ (0 ≤ (totR f m).1 → ∀ j,j < m → 0 ≤ f j → (totR f m).1 < f j ∨ (totR f m).1 = f j ∧ (totR f m).2 ≤ j)
 | 0=>⟨fun _ k h=>by omega,fun _ j h=>by omega⟩
 | m + 1=>by
   obtain ⟨h1,h2⟩:=totR_least f hf m
   have h3:=totR_shape f m
   simp only [totR]
   split
   · rename_i hc
     refine ⟨fun h=>by simp only at h; omega,fun _ j hj hfj=>?_⟩
     simp only at *
     by_cases e:j = m
     · subst e; exact .inr ⟨rfl,Int.le_refl _⟩
     · rcases hc.2 with hc2 | hc2
       · have:=h1 hc2 j (by omega); omega
       · by_cases h4:0 ≤ (totR f m).1
         · have:=h2 h4 j (by omega) hfj
           omega
         · have:=h1 (by omega) j (by omega); omega
   · rename_i hc
     refine ⟨fun h k hk=>?_,fun h j hj hfj=>?_⟩
     · by_cases e:k = m
       · subst e
         rcases Int.lt_or_le (f k) 0 with h4 | h4
         · exact h4
         · exact absurd ⟨h4,.inl h⟩ hc
       · exact h1 h k (by omega)
     · by_cases e:j = m
       · subst e
         rcases h3 with h3 | ⟨k,k1,k2,k3⟩
         · rw [h3] at h; simp only at h; omega
         · rw [k3] at hc h ⊢
           simp only at hc h ⊢
           by_cases h5:f j < f k ∨ f j = f k ∧ (j:Int) < k
           · exact absurd ⟨hfj,.inr h5⟩ hc
           · omega
       · exact h2 h j (by omega) hfj
theorem walkN_best {ls:List Lnk} {th:List Int} {n t from_:Nat} {most:Int} (h0:0 < n) (hls:∀ x ∈ ls,okLk n x) (hs:ls.Pairwise fun x y=>x.From < y.From ∨ x.From = y.From ∧ x.To < y.To) (hf:from_ < n) (hm0:0 ≤ most) :
   match walkN ls th n t from_ most with
   | none=>∀ ys c,W (arcsN ls th n) (entN th n from_ 0) ys c (th.length * n + t) → ¬ limH most ys.length
   | some p=>∃ ys c,Best (arcsN ls th n) (· % n) (limH most) (entN th n from_ 0) (th.length * n + t) ys c ∧ p.1 = (from_:Int) :: ys.map (fun s=>((s % n:Nat):Int)) ∧ p.2 = (c:Int):=by
 have hE:=fun x y a (h:(x,y,a) ∈ arcsN ls th n)=>arcs_bound hls h
 have hx0s:entN th n from_ 0 < n * (th.length + 1):=by
   unfold entN
   have:=entK_len (th:=th) (a:=from_) (k:=0) (by omega)
   have e2:(entK th from_ 0 + 1) * n ≤ (th.length + 1) * n:=Nat.mul_le_mul_right n (by omega)
   rw [Nat.succ_mul] at e2
   rw [Nat.mul_comm n]
   omega
 have hinj:=fun x y y' a a' (h:(x,y,a) ∈ arcsN ls th n) (h':(x,y',a') ∈ arcsN ls th n) (e:y % n = y' % n)=>arcs_inj hls hs h h' e
 unfold walkN
 generalize hz:th.length * n + t = z
 generalize hx0:entN th n from_ 0 = x0 at *
 cases hb:bestO (arcsN ls th n) z x0 with
 | none=>exact fun ys c hw=>absurd hw (bestO_no hb)
 | some p =>
   obtain ⟨c,h⟩:=p
   have hd:=bestO_spec hb
   by_cases hmo:most = 0 ∨ (h:Int) ≤ most
   · have hmo':most = 0 ∨ (((c,h):Nat × Nat).2:Int) ≤ most:=hmo
     simp only [if_pos hmo']
     have hgd:∀ h x c y (a:Nat),Dn (arcsN ls th n) z x c (h + 1) → (x,y,a) ∈ arcsN ls th n → (gdB (blO ls th n t) x y a = true ↔ ∃ d,Mn (arcsN ls th n) z h y d ∧ c = a + d):=by
       intro h x c y a hd ha
       obtain ⟨q1,q2,_,_⟩:=hE _ _ _ ha
       simp only at q1 q2
       unfold gdB blO
       rw [hz,blB_getD _ q1,blB_getD _ q2]
       have ex:encB (bestO (arcsN ls th n) z) x = ((c:Int),((h + 1:Nat):Int)):=by unfold encB; rw [bestO_some hd]
       rw [ex]
       cases hy:bestO (arcsN ls th n) z y with
       | none =>
         have ey:encB (bestO (arcsN ls th n) z) y = (-1,0):=by unfold encB; rw [hy]
         rw [ey]
         constructor
         · intro k; simp at k
         · rintro ⟨d,hm,_⟩
           obtain ⟨us,u1,_⟩:=hm.1
           exact absurd u1 (bestO_no hy)
       | some p =>
         obtain ⟨e,k⟩:=p
         have ey:encB (bestO (arcsN ls th n) z) y = ((e:Int),(k:Int)):=by unfold encB; rw [hy]
         rw [ey]
         simp only [Bool.and_eq_true,decide_eq_true_eq]
         have hdy:=bestO_spec hy
         constructor
         · rintro ⟨⟨k1,k2⟩,k3⟩
           have:k = h:=by omega
           subst this
           exact ⟨e,hdy.mn,by omega⟩
         · rintro ⟨d,k1,k2⟩
           obtain ⟨e',e1,e2,e3⟩:=(hd.step ha d).1 ⟨k1,k2⟩
           obtain ⟨rfl,rfl⟩:=hdy.uniq e1
           omega
     obtain ⟨ys,h1,h2⟩:=folN_fol hls hs (z:=z) (fun x y co _=>gdB (blO ls th n t) x y co) (fun h x c=>Dn (arcsN ls th n) z x c h) (fun h x c hd=>hd.mn) hgd (fun h x c y a d hd ha hm hc=>by
       obtain ⟨e,e1,e2,e3⟩:=(hd.step ha d).1 ⟨hm,hc⟩
       exact e3 ▸ e1) h x0 c hd
     obtain ⟨k1,k2,k3⟩:=h1.best hinj hd.mn
     refine ⟨ys,c,⟨k1,by rw [k2]; exact hmo,fun zs d hw _=>?_⟩,by rw [h2],rfl⟩
     rcases hd.2 _ _ hw with h5 | ⟨rfl,h5⟩
     · exact .inl h5
     · refine .inr ⟨rfl,?_⟩
       rcases Nat.lt_or_ge h zs.length with h6 | h6
       · exact .inl (by omega)
       · exact .inr ⟨by omega,k3 _ hw (by omega)⟩
   · have hmo':¬ (most = 0 ∨ (((c,h):Nat × Nat).2:Int) ≤ most):=hmo
     simp only [if_neg hmo']
     obtain ⟨M,hM⟩:∃ M:Nat,M = most.toNat:=⟨_,rfl⟩
     rw [← hM]
     have hfv:∀ k,k < M + 1 → (fun h=>rowAt (mnRows (arcsN ls th n) z (n * (th.length + 1)) (M + 1)) h x0) k = encO (mnO (arcsN ls th n) z k x0):=fun k hk=>rowAt_mn _ _ hk hx0s
     obtain ⟨f,hfd⟩:∃ f,f = fun k=>if k < M + 1 then encO (mnO (arcsN ls th n) z k x0) else -1:=⟨_,rfl⟩
     have hfb:∀ k,-1 ≤ f k:=fun k=>by
       rw [hfd]
       simp only
       split
       · unfold encO; split <;> omega
       · omega
     have htot:∀ m,m ≤ M + 1 → totR (fun h=>rowAt (mnRows (arcsN ls th n) z (n * (th.length + 1)) (M + 1)) h x0) m = totR f m:=by
       intro m
       induction m with
       | zero=>intro _; rfl
       | succ m ih =>
         intro hm
         simp only [totR]
         rw [ih (by omega)]
         have:rowAt (mnRows (arcsN ls th n) z (n * (th.length + 1)) (M + 1)) m x0 = f m:=by
           rw [hfd]
           simp only
           rw [if_pos (by omega)]
           exact hfv m (by omega)
         rw [this]
     rw [htot (M + 1) (Nat.le_refl _)]
     have hfk:∀ k,k < M + 1 → f k = encO (mnO (arcsN ls th n) z k x0):=fun k hk=>by rw [hfd]; simp only; rw [if_pos hk]
     obtain ⟨l1,l2⟩:=totR_least f hfb (M + 1)
     have hsh:=totR_shape f (M + 1)
     have hle:∀ zs d,W (arcsN ls th n) x0 zs d z → zs.length < M + 1 → 0 ≤ f zs.length ∧ f zs.length ≤ (d:Int):=by
       intro zs d hw hl
       rw [hfk _ hl]
       cases hm:mnO (arcsN ls th n) z zs.length x0 with
       | none=>exact absurd rfl (mnO_no hm hw)
       | some e =>
         have:=(mnO_spec hm).2 _ _ hw rfl
         simp only [encO]
         omega
     by_cases ht:(totR f (M + 1)).1 < 0
     · simp only [if_pos ht]
       intro ys d hw hl
       have hlm:ys.length < M + 1:=by unfold limH at hl; omega
       have:=l1 ht _ hlm
       have:=hle _ _ hw hlm
       omega
     · simp only [if_neg ht]
       rcases hsh with hsh | ⟨k,k1,k2,k3⟩
       · rw [hsh] at ht; simp only at ht; omega
       · rw [k3] at l2 ⊢
         simp only at l2 ⊢
         have hfkk:=hfk k k1
         cases hmk:mnO (arcsN ls th n) z k x0 with
         | none=>rw [hmk] at hfkk; simp only [encO] at hfkk; omega
         | some e =>
           rw [hmk] at hfkk
           simp only [encO] at hfkk
           have hme:=mnO_spec hmk
           have hgd:∀ h x c y (a:Nat),(Mn (arcsN ls th n) z (h + 1) x c ∧ h + 1 < M + 1) → (x,y,a) ∈ arcsN ls th n → (gdR (mnRows (arcsN ls th n) z (n * (th.length + 1)) (M + 1)) x y a (h + 1) = true ↔ ∃ d,Mn (arcsN ls th n) z h y d ∧ c = a + d):=by
             rintro h x c y a ⟨hd,hlt⟩ ha
             obtain ⟨q1,q2,_,_⟩:=hE _ _ _ ha
             simp only at q1 q2
             unfold gdR
             rw [Nat.add_sub_cancel,rowAt_mn _ _ (show h < M + 1 by omega) q2,rowAt_mn _ _ hlt q1]
             have ex:mnO (arcsN ls th n) z (h + 1) x = some c:=mnO_some hd
             rw [ex]
             cases hy:mnO (arcsN ls th n) z h y with
             | none =>
               constructor
               · intro k; simp [encO] at k
               · rintro ⟨d,hm,_⟩
                 obtain ⟨us,w1,w2⟩:=hm.1
                 exact absurd w2 (mnO_no hy w1)
             | some e =>
               show (decide (0 ≤ (e:Int)) && decide ((e:Int) + (a:Int) = (c:Int))) = true ↔ _
               rw [Bool.and_eq_true,decide_eq_true_iff,decide_eq_true_iff]
               constructor
               · rintro ⟨_,k2⟩
                 exact ⟨e,mnO_spec hy,by omega⟩
               · rintro ⟨d,k1,k2⟩
                 have:=(mnO_spec hy).uniq k1
                 subst this
                 exact ⟨by omega,by omega⟩
           obtain ⟨ys,u1,u2⟩:=folN_fol hls hs (z:=z) (fun x y co l=>gdR (mnRows (arcsN ls th n) z (n * (th.length + 1)) (M + 1)) x y co l) (fun h x c=>Mn (arcsN ls th n) z h x c ∧ h < M + 1) (fun h x c hd=>hd.1) hgd (fun h x c y a d hd ha hm hc=>⟨hm,by omega⟩) k x0 e ⟨hme,k1⟩
           obtain ⟨b1,b2,b3⟩:=u1.best hinj hme
           refine ⟨ys,e,⟨b1,by unfold limH; omega,fun zs d hw hl=>?_⟩,by rw [Int.toNat_natCast,u2],by rw [hfkk]⟩
           have hlm:zs.length < M + 1:=by unfold limH at hl; omega
           obtain ⟨v1,v2⟩:=hle _ _ hw hlm
           rcases l2 k2 zs.length hlm v1 with v3 | ⟨v3,v4⟩
           · exact .inl (by omega)
           · rcases Nat.lt_or_ge e d with v5 | v5
             · exact .inl v5
             · have:e = d:=by omega
               subst this
               refine .inr ⟨rfl,?_⟩
               rcases Nat.lt_or_ge k zs.length with h6 | h6
               · exact .inl (by omega)
               · exact .inr ⟨by omega,b3 _ hw (by omega)⟩
end Go.Proofs.YtpmmnnaaoideeaaGreat

/- What the reference keeps are the least walks of so many steps. No program. -/
namespace Go.Proofs.YtpmmnnaaoideeaaGreat
open Go Go.Am Go.Wk
def ndI (l:List Nat):List Int:=l.map fun x:Nat=>(x:Int)
theorem cmpI_lt:∀ (a b:List Nat),cmpI (ndI a) (ndI b) < 0 ↔ lexlt a b
 | [],[]=>by simp [ndI,cmpI,lexlt]
 | [],_ :: _=>by simp [ndI,cmpI,lexlt]
 | _ :: _,[]=>by simp [ndI,cmpI,lexlt]
 | x :: a,y :: b=>by
   have ih:=cmpI_lt a b
   unfold ndI at ih ⊢
   simp only [List.map_cons,cmpI,lexlt]
   rw [← ih]
   split
   · omega
   · split
     · omega
     · omega
theorem cmpI_cons (x:Int) (a b:List Int):cmpI (x :: a) (x :: b) = cmpI a b:=by simp [cmpI]
structure RW (E:List Arc) (fr n x0:Nat) (h:Nat) (w:Wlk) (ys:List Nat) (s c:Nat):Prop where
  wk:W E x0 ys c s
  len:ys.length = h
  N:w.N = (fr:Int) :: ndI (ys.map (· % n))
  C:w.C = c
  D:w.D = s / n
  L:lastW w = ((s % n:Nat):Int)
theorem RW.code {E:List Arc} {fr n x0 h:Nat} {w:Wlk} {ys:List Nat} {s c:Nat} (r:RW E fr n x0 h w ys s c):codeW n w = s:=by
 unfold codeW
 rw [r.D,r.L,Int.toNat_natCast,Nat.mul_comm]
 exact Nat.div_add_mod s n
def notLess (w x:Wlk):Prop:=¬ betW x w = true
theorem RW.bet {E:List Arc} {fr n x0 h:Nat} {w w':Wlk} {ys ys':List Nat} {s s' c c':Nat} (r:RW E fr n x0 h w ys s c) (r':RW E fr n x0 h w' ys' s' c'):betW w w' = true ↔ c < c' ∨ c = c' ∧ lexlt (ys.map (· % n)) (ys'.map (· % n)):=by
 unfold betW
 rw [r.N,r'.N,r.C,r'.C,cmpI_cons]
 rw [Bool.or_eq_true,Bool.and_eq_true,decide_eq_true_iff,decide_eq_true_iff,decide_eq_true_iff,cmpI_lt]
 constructor
 · rintro (h | ⟨h,k⟩)
   · exact .inl (by omega)
   · exact .inr ⟨by omega,k⟩
 · rintro (h | ⟨h,k⟩)
   · exact .inl (by omega)
   · exact .inr ⟨by omega,k⟩
section
variable {ls:List Lnk} {th:List Int} {n fr x0:Nat} {c:Con} (hls:∀ x ∈ ls,okLk n x) (hth:c.Thru = th)
include hls hth
theorem RW.step {h:Nat} {w:Wlk} {ys:List Nat} {s co:Nat} (r:RW (arcsN ls th n) fr n x0 h w ys s co) (hk:s / n ≤ th.length) {x:Lnk} (hx:x ∈ ls) (hf:x.From = lastW w):RW (arcsN ls th n) fr n x0 (h + 1) (stepW w x c) (ys ++ [entN th n x.To.toNat (s / n)]) (entN th n x.To.toNat (s / n)) (co + x.Cost.toNat) ∧ entN th n x.To.toNat (s / n) / n ≤ th.length:=by
 obtain ⟨o1,o2,o3,o4,o5,o6⟩:=hls x hx
 have hfs:x.From.toNat = s % n:=by rw [hf,r.L,Int.toNat_natCast]
 have ha:=arc_of hk hx hfs
 have e1:=ent_div (th:=th) (k:=s / n) (show x.To.toNat < n by omega)
 have e2:=ent_mod (th:=th) (k:=s / n) (show x.To.toNat < n by omega)
 have e3:(x.To.toNat:Int) = x.To:=by omega
 refine ⟨⟨r.wk.snoc ha,by simp [r.len],?_,?_,?_,?_⟩,by rw [e1]; exact entK_len hk⟩
 · simp only [stepW,r.N,ndI,List.map_append,List.map_cons,List.map_nil,List.cons_append,e2,e3]
 · simp only [stepW,r.C]; omega
 · simp only [stepW]
   rw [e1,r.D,hth]
   unfold entK
   rw [e3]
 · rw [e2,e3]
   unfold lastW stepW
   simp
omit hls hth in
theorem keepN_spec (l:List Wlk) (w:Wlk):(∀ y ∈ keepN l w,y ∈ l ∨ y = w) ∧ ((∃ y ∈ keepN l w,lastW y = lastW w ∧ y.D = w.D ∧ notLess y w)) ∧ ∀ y ∈ l,y ∈ keepN l w ∨ (lastW w = lastW y ∧ w.D = y.D ∧ betW w y = true ∧ w ∈ keepN l w):=by
 have hrefl:∀ w:Wlk,notLess w w:=by
   intro w
   unfold notLess betW
   have:∀ l:List Int,cmpI l l = 0:=by
     intro l
     induction l with
     | nil=>rfl
     | cons x l ih=>rw [cmpI_cons,ih]
   simp [this]
 rcases keepN_cases l w with ⟨i,x,h1,h2,h3,h4⟩ | ⟨h1,h2⟩
 · rw [h4]
   have hi:=(List.getElem?_eq_some_iff.1 h1).1
   have hxi:=(List.getElem?_eq_some_iff.1 h1).2
   by_cases hb:betW w x = true
   · rw [if_pos hb]
     have hw:w ∈ l.set i w:=List.mem_iff_getElem?.2 ⟨i,by simp [hi]⟩
     refine ⟨fun y hy=>(List.mem_or_eq_of_mem_set hy),⟨w,hw,rfl,rfl,hrefl w⟩,fun y hy=>?_⟩
     obtain ⟨j,hj,hyj⟩:=List.mem_iff_getElem.1 hy
     by_cases e:i = j
     · subst e
       have:x = y:=by rw [← hxi,hyj]
       subst this
       exact .inr ⟨h2.symm,h3.symm,hb,hw⟩
     · exact .inl (List.mem_iff_getElem?.2 ⟨j,by rw [List.getElem?_set,if_neg e,← hyj]; exact List.getElem?_eq_getElem hj⟩)
   · rw [if_neg hb]
     have:l.set i x = l:=by
       apply List.ext_getElem?
       intro k
       rw [List.getElem?_set]
       split
       · rename_i e; subst e; exact h1.symm
       · rfl
     rw [this]
     exact ⟨fun y hy=>.inl hy,⟨x,List.mem_of_getElem? h1,h2,h3,hb⟩,fun y hy=>.inl hy⟩
 · rw [h2]
   exact ⟨fun y hy=>by simpa using hy,⟨w,by simp,rfl,rfl,hrefl w⟩,fun y hy=>.inl (by simp [hy])⟩
structure Kept (E:List Arc) (fr n x0 t h:Nat) (S:List Nat → Nat → Nat → Prop) (l:List Wlk):Prop where
  a:∀ w ∈ l,∃ ys s c,RW E fr n x0 h w ys s c ∧ s / n ≤ t
  b:∀ ys s c,S ys s c → ∃ w ∈ l,∃ ys' c',RW E fr n x0 h w ys' s c' ∧ (c' < c ∨ c' = c ∧ ¬ lexlt (ys.map (· % n)) (ys'.map (· % n)))
omit hls hth in
theorem Kept.keep {E:List Arc} {t h:Nat} (h0:0 < n) {S:List Nat → Nat → Nat → Prop} {l:List Wlk} (k:Kept E fr n x0 t h S l) {w:Wlk} {ys:List Nat} {s co:Nat} (r:RW E fr n x0 h w ys s co) (hs:s / n ≤ t):Kept E fr n x0 t h (fun zs s' d=>S zs s' d ∨ zs = ys ∧ s' = s ∧ d = co) (keepN l w):=by
 obtain ⟨k1,⟨y,y1,y2,y3,y4⟩,k3⟩:=keepN_spec l w
 have code:∀ {w w':Wlk} {ys ys':List Nat} {s s' c c':Nat},RW E fr n x0 h w ys s c → RW E fr n x0 h w' ys' s' c' → lastW w = lastW w' → w.D = w'.D → s = s':=by
   intro w w' ys ys' s s' c c' r r' e1 e2
   rw [← r.code,← r'.code]
   unfold codeW
   rw [e1,e2]
 have hal:∀ y ∈ keepN l w,∃ ys s c,RW E fr n x0 h y ys s c ∧ s / n ≤ t:=by
   intro y hy
   rcases k1 y hy with h1 | rfl
   · exact k.a y h1
   · exact ⟨ys,s,co,r,hs⟩
 refine ⟨hal,?_⟩
 rintro zs s' d (hS | ⟨rfl,rfl,rfl⟩)
 · obtain ⟨x,x1,ys',c',x2,x3⟩:=k.b _ _ _ hS
   rcases k3 x x1 with h1 | ⟨h1,h2,h3,h4⟩
   · exact ⟨x,h1,ys',c',x2,x3⟩
   · have:=code r x2 h1 h2
     subst this
     refine ⟨w,h4,ys,co,r,?_⟩
     have hb:=(r.bet x2).1 h3
     rcases hb with hb | ⟨rfl,hb⟩
     · rcases x3 with x3 | ⟨rfl,_⟩
       · exact .inl (by omega)
       · exact .inl hb
     · rcases x3 with x3 | ⟨rfl,x3⟩
       · exact .inl x3
       · refine .inr ⟨rfl,fun hc=>x3 (lexlt_trans hc hb)⟩
 · obtain ⟨ys2,s2,c2,r2,hs2⟩:=hal y y1
   have:=code r2 r y2 y3
   subst this
   refine ⟨y,y1,ys2,c2,r2,?_⟩
   have hb:¬ _:=fun q=>y4 ((r.bet r2).2 q)
   rcases Nat.lt_trichotomy c2 d with h1 | h1 | h1
   · exact .inl h1
   · exact .inr ⟨h1,fun q=>hb (.inr ⟨h1.symm,q⟩)⟩
   · exact absurd (.inl h1) hb
omit hls hth in
theorem Kept.less {E:List Arc} {t h:Nat} {S S':List Nat → Nat → Nat → Prop} {l:List Wlk} (k:Kept E fr n x0 t h S l) (hS:∀ ys s c,S' ys s c → S ys s c):Kept E fr n x0 t h S' l:=⟨k.a,fun ys s c q=>k.b ys s c (hS _ _ _ q)⟩
end
end Go.Proofs.YtpmmnnaaoideeaaGreat
