import Derived.Test.YtapgoboiljjecaaGreatDoorQK17
set_option linter.unusedSimpArgs false
set_option linter.unusedVariables false
namespace Go.Proofs.YtapgoboiljjecaaGreatDoor
open Go Go.Am
end Go.Proofs.YtapgoboiljjecaaGreatDoor

namespace Go.Proofs.YtapgoboiljjecaaGreatDoor
open Go Go.Am
def seenB (x:Int):List Int:=numB 4 (U x)
def keyBt (k:LKey):List Int:=numB 1 (U k.Ty) ++ numB 4 (U k.ID) ++ numB 1 (U k.Len) ++ numB 4 (U k.Router)
def cntB (n:Nat):List Int:=numB 1 (U n)
def helB (h:Hel):List Int:=numB 1 (U h.Len) ++ numB 2 (U h.Hello) ++ numB 2 (U h.Dead) ++ numB 1 (U h.Pri) ++ numB 4 (U h.DR) ++ numB 4 (U h.BDR) ++ cntB h.Seen.length
def headsB (l:List Hdr):List Int:=cntB l.length ++ (l.map hdrB).flatten
def flagsP (p:Pkt):Int:=bitP p.Init 1 + bitP p.More 2 + bitP p.Master 4
def bodyP (p:Pkt):List Int :=
 if p.Kind = 1 then helB p.E ++ (p.E.Seen.map seenB).flatten
 else if p.Kind = 3 then cntB p.Keys.length ++ (p.Keys.map keyBt).flatten
 else if p.Kind = 4 then cntB p.Lsas.length ++ (p.Lsas.map bytesA).flatten
 else if p.Kind = 2 then numB 4 (U p.Seq) ++ numB 1 (flagsP p) ++ headsB p.Heads
 else headsB p.Heads
theorem seenB_len (x:Int):(seenB x).length = 4:=by simp [seenB,numB_len]
theorem keyBt_len (k:LKey):(keyBt k).length = 10:=by simp [keyBt,numB_len]
theorem cntB_len (n:Nat):(cntB n).length = 1:=by simp [cntB,numB_len]
theorem helB_len (h:Hel):(helB h).length = 15:=by simp [helB,numB_len,cntB]
end Go.Proofs.YtapgoboiljjecaaGreatDoor

/- Packets as texts: readers and printers. -/
namespace Go.Proofs.YtapgoboiljjecaaGreatDoor
open Go Go.Am
abbrev Sr:=List Int × Int
def nx (n:Nat) (s:Sr):Int × Sr:=if s.2 ≠ 0 then (0,s) else if n ≤ s.1.length then (numAt s.1 0 n,(s.1.drop n,0)) else (0,(s.1,3))
def andP {α β:Type} (f:Sr → α × Sr) (g:Sr → β × Sr) (s:Sr):(α × β) × Sr:=(((f s).1,(g (f s).2).1),(g (f s).2).2)
def mapP {α β:Type} (φ:α → β) (f:Sr → α × Sr) (s:Sr):β × Sr:=(φ (f s).1,(f s).2)
def manyN {α:Type} (f:Sr → α × Sr):Nat → List α → Sr → List α × Sr
 | 0,l,s=>(l,s)
 | k + 1,l,s=>if (f s).2.2 ≠ 0 then ([],(f s).2) else manyN f k (l ++ [(f s).1]) (f s).2
def manyP {α:Type} (f:Sr → α × Sr) (s:Sr):List α × Sr:=manyN f (nx 1 s).1.toNat [] (nx 1 s).2
structure Prs {α:Type} (f:Sr → α × Sr) (pr:α → List Int) (ok:α → Prop):Prop where
  err:∀ s,(f s).2.2 = 0 → s.2 = 0
  isb:∀ s,isB s.1 → isB (f s).2.1
  back:∀ r,isB r → (f (r,0)).2.2 = 0 → r = pr (f (r,0)).1 ++ (f (r,0)).2.1 ∧ ok (f (r,0)).1
  fwd:∀ x rest,ok x → f (pr x ++ rest,0) = (x,(rest,0))
theorem nx_prs (n:Nat):Prs (nx n) (numB n) (fun x=>0 ≤ x ∧ x < 256 ^ n):=by
 constructor
 · intro s h
   unfold nx at h
   by_cases e:s.2 = 0
   · exact e
   · rw [if_pos e] at h; exact h
 · intro s h
   unfold nx
   split
   · exact h
   · split
     · exact isB_drop h n
     · exact h
 · intro r hb h
   unfold nx at h ⊢
   simp only [ne_eq,not_true_eq_false,if_false] at h ⊢
   by_cases hl:n ≤ r.length
   · rw [if_pos hl]
     refine ⟨?_,numAt_in hb 0 n⟩
     simp only
     rw [numB_numAt hb 0 n (by omega),List.drop_zero,List.take_append_drop]
   · rw [if_neg hl] at h
     simp at h
 · intro x rest hx
   unfold nx
   have e:numAt (numB n x ++ rest) 0 n = x % 256 ^ n:=numAt_app [] rest n x 0 rfl
   simp only [ne_eq,not_true_eq_false,if_false,List.length_append,numB_len]
   rw [if_pos (by omega),e,Int.emod_eq_of_lt hx.1 hx.2]
   have:(numB n x ++ rest).drop n = rest:=by
     rw [List.drop_append_of_le_length (by simp [numB_len]),List.drop_of_length_le (by simp [numB_len]),List.nil_append]
   rw [this]
theorem Prs.pair {α β:Type} {f:Sr → α × Sr} {g:Sr → β × Sr} {pf:α → List Int} {pg:β → List Int} {of:α → Prop} {og:β → Prop} (hf:Prs f pf of) (hg:Prs g pg og) :
   Prs (andP f g) (fun x=>pf x.1 ++ pg x.2) (fun x=>of x.1 ∧ og x.2):=by
 constructor
 · intro s h
   exact hf.err s (hg.err _ h)
 · intro s h
   exact hg.isb _ (hf.isb s h)
 · intro r hb h
   have h1:=hg.err _ h
   obtain ⟨b1,b2⟩:=hf.back r hb h1
   have e:(f (r,0)).2 = ((f (r,0)).2.1,0):=Prod.ext rfl h1
   have hb':=hf.isb (r,0) hb
   have h':(g (f (r,0)).2).2.2 = 0:=h
   rw [e] at h'
   obtain ⟨c1,c2⟩:=hg.back _ hb' h'
   simp only [andP]
   rw [e]
   refine ⟨?_,b2,c2⟩
   rw [List.append_assoc,← c1]
   exact b1
 · rintro ⟨x,y⟩ rest ⟨h1,h2⟩
   simp only [andP]
   rw [List.append_assoc,hf.fwd x _ h1]
   simp only
   rw [hg.fwd y _ h2]
theorem Prs.iso {α β:Type} {f:Sr → α × Sr} {pf:α → List Int} {of:α → Prop} (hf:Prs f pf of) (φ:α → β) (pg:β → List Int) (og:β → Prop) (ψ:β → α)
   (h1:∀ x,of x → pg (φ x) = pf x ∧ og (φ x)) (h2:∀ y,og y → φ (ψ y) = y ∧ of (ψ y)):Prs (mapP φ f) pg og:=by
 constructor
 · intro s h; exact hf.err s h
 · intro s h; exact hf.isb s h
 · intro r hb h
   obtain ⟨b1,b2⟩:=hf.back r hb h
   simp only [mapP]
   exact ⟨by rw [(h1 _ b2).1]; exact b1,(h1 _ b2).2⟩
 · intro y rest hy
   obtain ⟨k1,k2⟩:=h2 y hy
   have e:pg y = pf (ψ y):=by rw [← (h1 _ k2).1,k1]
   simp only [mapP]
   rw [e,hf.fwd _ _ k2,k1]
theorem manyN_err {α:Type} {f:Sr → α × Sr} {pf:α → List Int} {of:α → Prop} (hf:Prs f pf of):∀ (k:Nat) (l:List α) (s:Sr),(manyN f k l s).2.2 = 0 → s.2 = 0
 | 0,l,s,h=>h
 | k + 1,l,s,h=>by
   unfold manyN at h
   split at h
   · rename_i e; exact (e h).elim
   · exact hf.err s (manyN_err hf k _ _ h)
theorem manyN_isb {α:Type} {f:Sr → α × Sr} {pf:α → List Int} {of:α → Prop} (hf:Prs f pf of):∀ (k:Nat) (l:List α) (s:Sr),isB s.1 → isB (manyN f k l s).2.1
 | 0,l,s,h=>h
 | k + 1,l,s,h=>by
   unfold manyN
   split
   · exact hf.isb s h
   · exact manyN_isb hf k _ _ (hf.isb s h)
theorem manyN_back {α:Type} {f:Sr → α × Sr} {pf:α → List Int} {of:α → Prop} (hf:Prs f pf of):∀ (k:Nat) (l:List α) (r:List Int),isB r → (manyN f k l (r,0)).2.2 = 0 →
   ∃ l',l'.length = k ∧ (∀ x ∈ l',of x) ∧ (manyN f k l (r,0)).1 = l ++ l' ∧ r = (l'.map pf).flatten ++ (manyN f k l (r,0)).2.1
 | 0,l,r,_,_=>⟨[],rfl,by simp,by simp [manyN],by simp [manyN]⟩
 | k + 1,l,r,hb,h=>by
   unfold manyN at h ⊢
   by_cases e:(f (r,0)).2.2 = 0
   case neg=>rw [if_pos e] at h; exact (e h).elim
   rw [if_neg (by simp [e])] at h ⊢
   obtain ⟨b1,b2⟩:=hf.back r hb e
   have e2:(f (r,0)).2 = ((f (r,0)).2.1,0):=Prod.ext rfl e
   rw [e2] at h
   obtain ⟨l',c1,c2,c3,c4⟩:=manyN_back hf k _ _ (hf.isb (r,0) hb) h
   rw [e2]
   refine ⟨(f (r,0)).1 :: l',by simp [c1],?_,?_,?_⟩
   · intro x hx
     rcases List.mem_cons.1 hx with rfl | hx
     · exact b2
     · exact c2 x hx
   · rw [c3]; simp
   · rw [List.map_cons,List.flatten_cons,List.append_assoc,← c4]
     exact b1
theorem manyN_fwd {α:Type} {f:Sr → α × Sr} {pf:α → List Int} {of:α → Prop} (hf:Prs f pf of):∀ (l' l:List α) (rest:List Int),(∀ x ∈ l',of x) → manyN f l'.length l ((l'.map pf).flatten ++ rest,0) = (l ++ l',(rest,0))
 | [],l,rest,_=>by simp [manyN]
 | x :: l',l,rest,h=>by
   have hx:=hf.fwd x ((l'.map pf).flatten ++ rest) (h x (by simp))
   simp only [List.length_cons,manyN,List.map_cons,List.flatten_cons,List.append_assoc]
   rw [hx]
   simp only [ne_eq,not_true_eq_false,if_false]
   rw [manyN_fwd hf l' _ rest (fun y hy=>h y (by simp [hy]))]
   simp
theorem Prs.many {α:Type} {f:Sr → α × Sr} {pf:α → List Int} {of:α → Prop} (hf:Prs f pf of):Prs (manyP f) (fun l=>cntB l.length ++ (l.map pf).flatten) (fun l=>l.length < 256 ∧ ∀ x ∈ l,of x):=by
 have h1:=nx_prs 1
 constructor
 · intro s h
   exact h1.err s (manyN_err hf _ _ _ h)
 · intro s h
   exact manyN_isb hf _ _ _ (h1.isb s h)
 · intro r hb h
   have e:=manyN_err hf _ _ _ h
   obtain ⟨b1,b2⟩:=h1.back r hb e
   have e2:(nx 1 (r,0)).2 = ((nx 1 (r,0)).2.1,0):=Prod.ext rfl e
   unfold manyP at h ⊢
   rw [e2] at h ⊢
   obtain ⟨l',c1,c2,c3,c4⟩:=manyN_back hf _ _ _ (h1.isb (r,0) hb) h
   rw [c3]
   have hn:((l'.length:Nat):Int) = (nx 1 (r,0)).1:=by omega
   refine ⟨?_,?_,by simpa using c2⟩
   · simp only [List.nil_append,cntB]
     rw [hn,u64_id (by omega),List.append_assoc,← c4]
     exact b1
   · simp only [List.nil_append]; omega
 · rintro l rest ⟨g1,g2⟩
   unfold manyP
   simp only [cntB]
   rw [u64_id (by omega),List.append_assoc,h1.fwd _ _ (by omega)]
   simp only [Int.toNat_natCast]
   rw [manyN_fwd hf l [] rest g2]
   simp
end Go.Proofs.YtapgoboiljjecaaGreatDoor

/- Packets as texts: what a packet's body is read from, and what it is printed as. -/
namespace Go.Proofs.YtapgoboiljjecaaGreatDoor
open Go Go.Am
def nxI (n:Nat):Sr → Int × Sr:=mapP I64 (nx n)
def nxW:Sr → Int × Sr:=mapP W32 (nx 4)
theorem I64_id {x:Int} (h:0 ≤ x ∧ x < 4294967296):I64 x = x:=wrap_i x (by omega) (by omega)
theorem W32_id {x:Int} (h:0 ≤ x ∧ x < 4294967296):W32 x = x:=u32_id h
theorem nxI_prs (n:Nat) (hn:n ≤ 4):Prs (nxI n) (fun x=>numB n (U x)) (fun x=>0 ≤ x ∧ x < 256 ^ n):=by
 have hp:(256:Int) ^ n ≤ 4294967296:=by
   have:n = 0 ∨ n = 1 ∨ n = 2 ∨ n = 3 ∨ n = 4:=by omega
   rcases this with rfl | rfl | rfl | rfl | rfl <;> decide
 refine (nx_prs n).iso I64 _ _ id (fun x hx=>?_) (fun y hy=>?_)
 · rw [I64_id (by omega),u64_id (by omega)]; exact ⟨rfl,hx⟩
 · exact ⟨I64_id (by simp only [id]; omega),hy⟩
theorem nxW_prs:Prs nxW seenB inW:=by
 refine (nx_prs 4).iso W32 _ _ id (fun x hx=>?_) (fun y hy=>?_)
 · have hx':0 ≤ x ∧ x < 4294967296:=hx
   rw [W32_id hx',seenB,u64_id (by omega)]; exact ⟨rfl,by unfold inW; omega⟩
 · unfold inW at hy
   exact ⟨W32_id (by simp only [id]; omega),by simp only [id]; exact ⟨hy.1,by omega⟩⟩
def hdr0:Hdr:=⟨0,0,0,0,0,0,0⟩
def hdP (s:Sr):Hdr × Sr:=if s.2 ≠ 0 then (hdr0,s) else if (decH s.1).2 ≠ 0 then ((decH s.1).1,(s.1,(decH s.1).2)) else ((decH s.1).1,(s.1.drop 18,0))
def lsP (s:Sr):Lsa × Sr:=if s.2 ≠ 0 then (lsa0,s) else ((decL s.1).1,(s.1.drop (decL s.1).2.1,(decL s.1).2.2))
theorem decH_ok {b:List Int} (h:(decH b).2 = 0):18 ≤ b.length ∧ chkH (hdrAt b) = 0 ∧ decH b = (hdrAt b,0):=by
 unfold decH at h ⊢
 by_cases e1:b.length < 18
 · rw [if_pos e1] at h; simp at h
 rw [if_neg e1] at h ⊢
 by_cases e2:chkH (hdrAt b) = 0
 · rw [if_neg (by simp [e2])]; exact ⟨by omega,e2,rfl⟩
 · rw [if_pos e2] at h; exact (e2 h).elim
def okHr (h:Hdr):Prop:=chkH h = 0 ∧ inW h.ID ∧ inW h.Router
theorem hdP_prs:Prs hdP hdrB okHr:=by
 constructor
 · intro s h
   unfold hdP at h
   by_cases e:s.2 = 0
   · exact e
   · rw [if_pos e] at h; exact h
 · intro s h
   unfold hdP
   repeat' split
   · exact h
   · exact h
   · exact isB_drop h 18
 · intro r hb h
   unfold hdP at h ⊢
   simp only [ne_eq,not_true_eq_false,if_false] at h ⊢
   by_cases e:(decH r).2 = 0
   · rw [if_neg (by simp [e])]
     obtain ⟨h1,h2,h3⟩:=decH_ok e
     rw [h3]
     simp only
     refine ⟨?_,h2,hdrAt_W r,(okH_hdrAt r).2.2.2.1⟩
     rw [hdrB_hdrAt hb h1,List.take_append_drop]
   · rw [if_pos e] at h; exact (e h).elim
 · rintro x rest ⟨h1,h2,h3⟩
   unfold hdP
   simp only [ne_eq,not_true_eq_false,if_false]
   rw [decH_hdrB h1 h2 h3 rest]
   simp only [not_true_eq_false,if_false]
   rw [List.drop_append_of_le_length (by simp [hdrB_len]),List.drop_of_length_le (by simp [hdrB_len]),List.nil_append]
theorem sealE_iff (l:Lsa):sealE l = 0 ↔ chkA l = 0 ∧ l.H.Sum = sumA l:=by
 unfold sealE
 by_cases h:chkA l = 0
 · by_cases h2:l.H.Sum = sumA l <;> simp [h,h2]
 · simp [h]
theorem lsP_prs:Prs lsP bytesA (fun l=>okA l ∧ sealE l = 0):=by
 constructor
 · intro s h
   unfold lsP at h
   by_cases e:s.2 = 0
   · exact e
   · rw [if_pos e] at h; exact h
 · intro s h
   unfold lsP
   split
   · exact h
   · exact isB_drop h _
 · intro r hb h
   unfold lsP at h ⊢
   simp only [ne_eq,not_true_eq_false,if_false] at h ⊢
   obtain ⟨h1,h2,h3,h4,h5,h6,h7⟩:=decL_ok hb h
   have hd:=bytesA_dec hb h
   rw [h7]
   simp only
   refine ⟨?_,okA_bodyR (okH_hdrAt r) (isB_bodyAt hb),(sealE_iff _).2 ⟨h5,h6⟩⟩
   rw [hd,List.take_append_drop]
 · rintro x rest ⟨h1,h2⟩
   obtain ⟨h3,h4⟩:=(sealE_iff x).1 h2
   unfold lsP
   simp only [ne_eq,not_true_eq_false,if_false]
   rw [decL_bytesA h1 h3 h4 rest]
   simp only
   rw [List.drop_append_of_le_length (Nat.le_refl _),List.drop_of_length_le (Nat.le_refl _),List.nil_append]
def kyP:Sr → LKey × Sr:=mapP (fun x=>⟨x.1,x.2.1,x.2.2.1,x.2.2.2⟩) (andP (nxI 1) (andP nxW (andP (nxI 1) nxW)))
def okYr (k:LKey):Prop:=(0 ≤ k.Ty ∧ k.Ty < 256) ∧ inW k.ID ∧ (0 ≤ k.Len ∧ k.Len < 256) ∧ inW k.Router
theorem kyP_prs:Prs kyP keyBt okYr:=by
 refine ((nxI_prs 1 (by omega)).pair (nxW_prs.pair ((nxI_prs 1 (by omega)).pair nxW_prs))).iso _ _ _ (fun k=>(k.Ty,k.ID,k.Len,k.Router)) ?_ ?_
 · rintro ⟨a,b,c,d⟩ ⟨h1,h2,h3,h4⟩
   exact ⟨by simp [keyBt,seenB],h1,h2,h3,h4⟩
 · rintro ⟨a,b,c,d⟩ ⟨h1,h2,h3,h4⟩
   exact ⟨rfl,h1,h2,h3,h4⟩
def helP:Sr → Hel × Sr:=mapP (fun x=>⟨x.1,x.2.1,x.2.2.1,x.2.2.2.1,x.2.2.2.2.1,x.2.2.2.2.2.1,x.2.2.2.2.2.2⟩)
 (andP (nxI 1) (andP (nxI 2) (andP (nxI 2) (andP (nxI 1) (andP nxW (andP nxW (manyP nxW)))))))
def okEr (h:Hel):Prop:=(0 ≤ h.Len ∧ h.Len < 256) ∧ (0 ≤ h.Hello ∧ h.Hello < 65536) ∧ (0 ≤ h.Dead ∧ h.Dead < 65536) ∧ (0 ≤ h.Pri ∧ h.Pri < 256) ∧ inW h.DR ∧ inW h.BDR ∧ h.Seen.length < 256 ∧ ∀ x ∈ h.Seen,inW x
theorem helP_prs:Prs helP (fun h=>helB h ++ (h.Seen.map seenB).flatten) okEr:=by
 have n1:=nxI_prs 1 (by omega)
 have n2:=nxI_prs 2 (by omega)
 refine (n1.pair (n2.pair (n2.pair (n1.pair (nxW_prs.pair (nxW_prs.pair nxW_prs.many)))))).iso _ _ _ (fun h=>(h.Len,h.Hello,h.Dead,h.Pri,h.DR,h.BDR,h.Seen)) ?_ ?_
 · rintro ⟨a,b,c,d,e,f,g⟩ ⟨h1,h2,h3,h4,h5,h6,h7,h8⟩
   exact ⟨by simp [helB,seenB],h1,h2,h3,h4,h5,h6,h7,h8⟩
 · rintro ⟨a,b,c,d,e,f,g⟩ ⟨h1,h2,h3,h4,h5,h6,h7,h8⟩
   exact ⟨rfl,h1,h2,h3,h4,h5,h6,h7,h8⟩
def bits3 (x:Int):Bool × Bool × Bool:=(decide (x % 2 = 1),decide (x / 2 % 2 = 1),decide (x / 4 % 2 = 1))
def flP (s:Sr):(Bool × Bool × Bool) × Sr:=(bits3 (nx 1 s).1,if 7 < (nx 1 s).1 then ((nx 1 s).2.1,2) else (nx 1 s).2)
def flB (x:Bool × Bool × Bool):Int:=bitP x.1 1 + bitP x.2.1 2 + bitP x.2.2 4
theorem flP_prs:Prs flP (fun x=>numB 1 (flB x)) (fun _=>True):=by
 have h1:=nx_prs 1
 constructor
 · intro s h
   unfold flP at h
   simp only at h
   split at h
   · simp at h
   · exact h1.err s h
 · intro s h
   unfold flP
   simp only
   split
   · exact h1.isb s h
   · exact h1.isb s h
 · intro r hb h
   unfold flP at h ⊢
   simp only at h ⊢
   by_cases e:7 < (nx 1 (r,0)).1
   · rw [if_pos e] at h; simp at h
   · rw [if_neg e] at h ⊢
     obtain ⟨b1,b2⟩:=h1.back r hb h
     refine ⟨?_,trivial⟩
     have:flB (bits3 (nx 1 (r,0)).1) = (nx 1 (r,0)).1:=by
       generalize (nx 1 (r,0)).1 = v at b2 e
       have:v = 0 ∨ v = 1 ∨ v = 2 ∨ v = 3 ∨ v = 4 ∨ v = 5 ∨ v = 6 ∨ v = 7:=by omega
       rcases this with rfl | rfl | rfl | rfl | rfl | rfl | rfl | rfl <;> decide
     rw [this]
     exact b1
 · rintro ⟨a,b,c⟩ rest _
   have e:0 ≤ flB (a,b,c) ∧ flB (a,b,c) ≤ 7 ∧ bits3 (flB (a,b,c)) = (a,b,c):=by cases a <;> cases b <;> cases c <;> decide
   unfold flP
   rw [h1.fwd _ rest ⟨e.1,by omega⟩]
   simp only
   rw [if_neg (by omega),e.2.2]
def dbP:Sr → (Int × (Bool × Bool × Bool) × List Hdr) × Sr:=andP (nxI 4) (andP flP (manyP hdP))
theorem dbP_prs:Prs dbP (fun x=>numB 4 (U x.1) ++ (numB 1 (flB x.2.1) ++ headsB x.2.2)) (fun x=>(0 ≤ x.1 ∧ x.1 < 4294967296) ∧ True ∧ x.2.2.length < 256 ∧ ∀ h ∈ x.2.2,okHr h) :=
 (nxI_prs 4 (by omega)).pair (flP_prs.pair hdP_prs.many)
def rdP (p:Pkt) (s:Sr):Pkt × Sr :=
 if p.Kind = 1 then ({ p with E:=(helP s).1 },(helP s).2)
 else if p.Kind = 2 then ({ p with Seq:=(dbP s).1.1,Init:=(dbP s).1.2.1.1,More:=(dbP s).1.2.1.2.1,Master:=(dbP s).1.2.1.2.2,Heads:=(dbP s).1.2.2 },(dbP s).2)
 else if p.Kind = 3 then ({ p with Keys:=(manyP kyP s).1 },(manyP kyP s).2)
 else if p.Kind = 4 then ({ p with Lsas:=(manyP lsP s).1 },(manyP lsP s).2)
 else ({ p with Heads:=(manyP hdP s).1 },(manyP hdP s).2)
def pkA (k r a d:Int):Pkt:={ pkt0 with Kind:=k,Router:=r,Area:=a,Addr:=d }
theorem rdP_back {k r a d:Int} {b:List Int} (hb:isB b) (h:(rdP (pkA k r a d) (b,0)).2.2 = 0):b = bodyP (rdP (pkA k r a d) (b,0)).1 ++ (rdP (pkA k r a d) (b,0)).2.1 ∧
   (rdP (pkA k r a d) (b,0)).1.Kind = k ∧ (rdP (pkA k r a d) (b,0)).1.Router = r ∧ (rdP (pkA k r a d) (b,0)).1.Area = a ∧ (rdP (pkA k r a d) (b,0)).1.Addr = d:=by
 unfold rdP at h ⊢
 by_cases h1:k = 1
 · subst h1
   have:=(helP_prs.back b hb h).1
   exact ⟨this,rfl,rfl,rfl,rfl⟩
 by_cases h2:k = 2
 · subst h2
   have e:(pkA 2 r a d).Kind = 2:=rfl
   rw [if_neg (by rw [e]; decide),if_pos e] at h ⊢
   have:=(dbP_prs.back b hb h).1
   refine ⟨?_,rfl,rfl,rfl,rfl⟩
   simpa [bodyP,pkA,flB,flagsP] using this
 have e:(pkA k r a d).Kind = k:=rfl
 rw [if_neg (by rw [e]; exact h1),if_neg (by rw [e]; exact h2)] at h ⊢
 by_cases h3:k = 3
 · subst h3
   have:=(kyP_prs.many.back b hb h).1
   exact ⟨this,rfl,rfl,rfl,rfl⟩
 rw [if_neg (by rw [e]; exact h3)] at h ⊢
 by_cases h4:k = 4
 · subst h4
   have:=(lsP_prs.many.back b hb h).1
   exact ⟨this,rfl,rfl,rfl,rfl⟩
 rw [if_neg (by rw [e]; exact h4)] at h ⊢
 have:=(hdP_prs.many.back b hb h).1
 refine ⟨?_,rfl,rfl,rfl,rfl⟩
 simpa [bodyP,pkA,h1,h2,h3,h4,headsB] using this
end Go.Proofs.YtapgoboiljjecaaGreatDoor

/- Packets as texts: a packet is read from its print, and what is read is printed as what was read; damage is noticed. -/
namespace Go.Proofs.YtapgoboiljjecaaGreatDoor
open Go Go.Am
theorem rowsG_all {α:Type} {chk:α → Int} {key:α → LKey}:∀ {l:List α} {p:Option α},rowsG chk key p l = 0 → ∀ x ∈ l,chk x = 0
 | [],_,_=>by simp
 | x :: xs,p,h=>by
   unfold rowsG at h
   by_cases e:chk x = 0
   case neg=>rw [if_pos e] at h; exact (e h).elim
   rw [if_neg (by simp [e])] at h
   have h':rowsG chk key (some x) xs = 0:=by
     cases p with
     | none=>simpa using h
     | some z =>
       simp only [decide_eq_true_eq] at h
       split at h
       · simp at h
       · exact h
   intro y hy
   rcases List.mem_cons.1 hy with rfl | hy
   · exact e
   · exact rowsG_all h' y hy
theorem listG_all {α:Type} {chk:α → Int} {key:α → LKey} {l:List α} (h:listG chk key l = 0):l.length ≤ 64 ∧ ∀ x ∈ l,chk x = 0:=by
 unfold listG at h
 split at h
 · simp at h
 · exact ⟨by omega,rowsG_all h⟩
theorem chkE_ok {h:Hel} (e:chkE h = 0):(0 ≤ h.Len ∧ h.Len ≤ 32) ∧ (1 ≤ h.Hello ∧ h.Hello ≤ 65535) ∧ (1 ≤ h.Dead ∧ h.Dead ≤ 65535) ∧ (0 ≤ h.Pri ∧ h.Pri ≤ 255) ∧ h.Seen.length ≤ 64:=by
 unfold chkE at e
 split at e
 · simp at e
 rename_i h1
 split at e
 · simp at e
 simp only [not_or,Bool.not_eq_false,inR_iff] at h1
 exact ⟨h1.1,h1.2.1,h1.2.2.1,h1.2.2.2,by omega⟩
theorem chkP_ok {p:Pkt} (e:chkP p = 0):(1 ≤ p.Kind ∧ p.Kind ≤ 5) ∧ forP p = false ∧ (p.Kind = 1 → chkE p.E = 0) ∧ (p.Kind = 3 → listG chkY id p.Keys = 0) ∧ (p.Kind = 4 → listG sealE keyA p.Lsas = 0) ∧
   (p.Kind = 2 → 0 ≤ p.Seq ∧ p.Seq ≤ 2147483647) ∧ (p.Kind = 2 ∨ p.Kind = 5 → listG chkH keyH p.Heads = 0):=by
 unfold chkP at e
 by_cases h1:inR p.Kind 1 5 = false
 · rw [if_pos h1] at e; simp at e
 rw [if_neg h1] at e
 by_cases h2:p.Router = 0
 · rw [if_pos h2] at e; simp at e
 rw [if_neg h2] at e
 by_cases h3:forP p = true
 · rw [if_pos h3] at e; simp at e
 rw [if_neg h3] at e
 simp only [Bool.not_eq_false,inR_iff,Bool.not_eq_true] at h1 h3
 refine ⟨h1,h3,fun k=>?_,fun k=>?_,fun k=>?_,fun k=>?_,fun k=>?_⟩
 · rw [if_pos k] at e; exact e
 · rw [if_neg (by omega),if_pos k] at e; exact e
 · rw [if_neg (by omega),if_neg (by omega),if_pos k] at e; exact e
 · rw [if_neg (by omega),if_neg (by omega),if_neg (by omega)] at e
   split at e
   · simp at e
   · rename_i h
     simp only [k,true_and,Bool.not_eq_false,inR_iff] at h
     exact h
 · rw [if_neg (by omega),if_neg (by omega),if_neg (by omega)] at e
   split at e
   · simp at e
   · exact e
structure okPq (p:Pkt):Prop where
  router:inW p.Router
  area:inW p.Area
  addr:inW p.Addr
  edr:inW p.E.DR
  ebdr:inW p.E.BDR
  eseen:∀ x ∈ p.E.Seen,inW x
  hs:∀ h ∈ p.Heads,inW h.ID ∧ inW h.Router
  ks:∀ k ∈ p.Keys,inW k.ID ∧ inW k.Router
  ls:∀ x ∈ p.Lsas,okA x
def headP (p:Pkt) (n:Nat):List Int:=numB 1 1 ++ numB 1 (U p.Kind) ++ numB 2 (U (18 + n:Nat)) ++ numB 4 (U p.Router) ++ numB 4 (U p.Area) ++ numB 4 (U p.Addr)
def frameP (p:Pkt) (body:List Int):List Int:=headP p body.length ++ (numB 2 (U (inet (headP p body.length ++ [0,0] ++ body))) ++ body)
def encB (p:Pkt):List Int:=frameP p (bodyP p)
def encQ (p:Pkt):List Int × Int:=if chkP p ≠ 0 then ([],chkP p) else (encB p,0)
def blankP (b:List Int):List Int:=b.take 16 ++ [0,0] ++ b.drop 18
def frontP (b:List Int):Int:=if b.length < 18 then 3 else if b.getD 0 0 ≠ 1 then 12 else if (b.length:Int) < numAt b 2 2 then 3 else if numAt b 2 2 < b.length then 2 else
 if numAt b 16 2 ≠ inet (blankP b) then 13 else if inR (b.getD 1 0) 1 5 = false then 15 else 0
def readP (b:List Int):Pkt × Sr:=rdP (pkA (b.getD 1 0) (W32 (numAt b 4 4)) (W32 (numAt b 8 4)) (W32 (numAt b 12 4))) (b.drop 18,0)
def decP (b:List Int):Pkt × Int :=
 if frontP b ≠ 0 then (pkt0,frontP b) else if (readP b).2.2 ≠ 0 then (pkt0,(readP b).2.2) else if (readP b).2.1 ≠ [] then (pkt0,2) else if chkP (readP b).1 ≠ 0 then (pkt0,chkP (readP b).1) else ((readP b).1,0)
theorem headP_len (p:Pkt) (n:Nat):(headP p n).length = 16:=by simp [headP,numB_len]
theorem flat_leF {α:Type} (l:List α) (f:α → List Int) (s:Nat):(∀ x ∈ l,(f x).length ≤ s) → (l.map f).flatten.length ≤ s * l.length:=by
 induction l with
 | nil=>simp
 | cons x l ih =>
   intro h
   have h1:=ih (fun y hy=>h y (by simp [hy]))
   have h2:=h x (by simp)
   simp only [List.map_cons,List.flatten_cons,List.length_append,List.length_cons,Nat.mul_add]
   omega
theorem bodyP_len {p:Pkt} (h:chkP p = 0):(bodyP p).length ≤ 46465:=by
 obtain ⟨h1,h2,h3,h4,h5,h6,h7⟩:=chkP_ok h
 have hh:p.Kind = 2 ∨ p.Kind = 5 → (headsB p.Heads).length ≤ 1153:=fun k=>by
   have c1:=(listG_all (h7 k)).1
   have:=flat_leF p.Heads hdrB 18 (fun x _=>by rw [hdrB_len]; omega)
   simp only [headsB,List.length_append,cntB_len]; omega
 unfold bodyP
 split
 · rename_i k
   have c:=(chkE_ok (h3 k)).2.2.2.2
   have:=flat_leF p.E.Seen seenB 4 (fun x _=>by rw [seenB_len]; omega)
   simp only [List.length_append,helB_len]; omega
 split
 · rename_i k
   have c:=(listG_all (h4 k)).1
   have:=flat_leF p.Keys keyBt 10 (fun x _=>by rw [keyBt_len]; omega)
   simp only [List.length_append,cntB_len]; omega
 split
 · rename_i k
   obtain ⟨c,c2⟩:=listG_all (h5 k)
   have:=flat_leF p.Lsas bytesA 726 (fun x hx=>by
     obtain ⟨g1,g2⟩:=chkA_len ((sealE_iff x).1 (c2 x hx)).1
     exact bytesA_len x g1 g2)
   simp only [List.length_append,cntB_len]; omega
 split
 · rename_i k
   have:=hh (.inl k)
   simp only [List.length_append,numB_len]; omega
 · have:=hh (by omega)
   omega
end Go.Proofs.YtapgoboiljjecaaGreatDoor

/- Packets as texts: encoding and decoding belong together; damage is noticed. -/
namespace Go.Proofs.YtapgoboiljjecaaGreatDoor
open Go Go.Am
theorem headP_one (p:Pkt) (n:Nat) (hk:1 ≤ p.Kind ∧ p.Kind ≤ 5):headP p n = [1,p.Kind] ++ numB 2 (U (18 + n:Nat)) ++ numB 4 (U p.Router) ++ numB 4 (U p.Area) ++ numB 4 (U p.Addr):=by
 unfold headP
 rw [u64_id (x:=p.Kind) (by omega),one_byte (x:=1) (by omega),one_byte (x:=p.Kind) (by omega)]
 rfl
section
variable (p:Pkt) (t:List Int)
end
theorem decP_front {b:List Int} (h:(decP b).2 = 0):frontP b = 0:=by
 unfold decP at h
 by_cases e:frontP b = 0
 · exact e
 · rw [if_pos e] at h; exact h
theorem frontP_ok {b:List Int} (h:frontP b = 0):18 ≤ b.length ∧ b.getD 0 0 = 1 ∧ numAt b 2 2 = b.length ∧ numAt b 16 2 = inet (blankP b) ∧ (1 ≤ b.getD 1 0 ∧ b.getD 1 0 ≤ 5):=by
 unfold frontP at h
 by_cases h1:b.length < 18
 · rw [if_pos h1] at h; simp at h
 rw [if_neg h1] at h
 by_cases h2:b.getD 0 0 = 1
 case neg=>rw [if_pos h2] at h; simp at h
 rw [if_neg (fun k=>k h2)] at h
 by_cases h3:(b.length:Int) < numAt b 2 2
 · rw [if_pos h3] at h; simp at h
 rw [if_neg h3] at h
 by_cases h4:numAt b 2 2 < b.length
 · rw [if_pos h4] at h; simp at h
 rw [if_neg h4] at h
 by_cases h5:numAt b 16 2 = inet (blankP b)
 case neg=>rw [if_pos h5] at h; simp at h
 rw [if_neg (fun k=>k h5)] at h
 by_cases h6:inR (b.getD 1 0) 1 5 = false
 · rw [if_pos h6] at h; simp at h
 simp only [Bool.not_eq_false,inR_iff] at h6
 exact ⟨by omega,h2,by omega,h5,h6⟩
theorem decP_ok {b:List Int} (hb:isB b) (h:(decP b).2 = 0):chkP (decP b).1 = 0 ∧ encB (decP b).1 = b ∧ decP b = ((readP b).1,0):=by
 have hf:=decP_front h
 obtain ⟨f1,f2,f3,f4,f5⟩:=frontP_ok hf
 have e:(readP b).2.2 = 0 ∧ (readP b).2.1 = [] ∧ chkP (readP b).1 = 0 ∧ decP b = ((readP b).1,0):=by
   unfold decP at h ⊢
   rw [if_neg (by simp [hf])] at h ⊢
   by_cases e1:(readP b).2.2 = 0
   case neg=>rw [if_pos e1] at h; exact (e1 h).elim
   rw [if_neg (by simp [e1])] at h ⊢
   by_cases e2:(readP b).2.1 = []
   case neg=>rw [if_pos e2] at h; simp at h
   rw [if_neg (by simp [e2])] at h ⊢
   by_cases e3:chkP (readP b).1 = 0
   case neg=>rw [if_pos e3] at h; exact (e3 h).elim
   rw [if_neg (by simp [e3])]
   exact ⟨e1,e2,e3,rfl⟩
 obtain ⟨e1,e2,e3,e4⟩:=e
 rw [e4]
 refine ⟨e3,?_,rfl⟩
 obtain ⟨b1,b2,b3,b4,b5⟩:=rdP_back (isB_drop hb 18) e1
 have b0:(readP b).2.1 = []:=e2
 unfold readP at b0
 rw [b0,List.append_nil] at b1
 show encB (readP b).1 = b
 have hq:(readP b).1 = (rdP (pkA (b.getD 1 0) (W32 (numAt b 4 4)) (W32 (numAt b 8 4)) (W32 (numAt b 12 4))) (b.drop 18,0)).1:=rfl
 rw [← hq] at b1 b2 b3 b4 b5
 generalize (readP b).1 = q at *
 have n4:=numAt_in hb 4 4
 have n8:=numAt_in hb 8 4
 have n12:=numAt_in hb 12 4
 have n16:=numAt_in hb 16 2
 have n2:=numAt_in hb 2 2
 have hd:headP q (bodyP q).length = b.take 16:=by
   rw [headP_one q _ (by rw [b2]; exact f5),b2,b3,b4,b5]
   have el:((18 + (bodyP q).length:Nat):Int) = numAt b 2 2:=by
     rw [f3,← b1,List.length_drop]; omega
   rw [el,u64_id (x:=numAt b 2 2) (by omega),W32_id (x:=numAt b 4 4) (by omega),W32_id (x:=numAt b 8 4) (by omega),W32_id (x:=numAt b 12 4) (by omega),u64_id (x:=numAt b 4 4) (by omega),u64_id (x:=numAt b 8 4) (by omega),u64_id (x:=numAt b 12 4) (by omega)]
   rw [numB_numAt hb 2 2 (by omega),numB_numAt hb 4 4 (by omega),numB_numAt hb 8 4 (by omega),numB_numAt hb 12 4 (by omega)]
   have e2:[1,b.getD 1 0] = b.take 2:=by
     match b,f1,f2 with
     | x :: y :: r,_,f2 =>
       simp at f2
       simp [f2]
   rw [e2,take_parts,take_parts,take_parts,take_parts]
 unfold encB frameP
 rw [hd,← b1]
 have hbl:b.take 16 ++ [0,0] ++ b.drop 18 = blankP b:=rfl
 rw [hbl,← f4,u64_id (x:=numAt b 16 2) (by omega),numB_numAt hb 16 2 (by omega),← List.append_assoc,take_parts,List.take_append_drop]
theorem blank_getD {b:List Int} (h:18 ≤ b.length) (i:Nat):(blankP b).getD i 0 = if i = 16 ∨ i = 17 then 0 else b.getD i 0:=by
 unfold blankP
 simp only [List.getD_eq_getElem?_getD]
 by_cases h1:i < 16
 · rw [if_neg (by omega),List.append_assoc,List.getElem?_append_left (by rw [List.length_take]; omega),List.getElem?_take_of_lt h1]
 · by_cases h2:i < 18
   · rw [if_pos (by omega),List.getElem?_append_left (by simp; omega),List.getElem?_append_right (by rw [List.length_take]; omega),List.length_take,Nat.min_eq_left (by omega)]
     have:i = 16 ∨ i = 17:=by omega
     rcases this with rfl | rfl <;> rfl
   · rw [if_neg (by omega),List.getElem?_append_right (by simp; omega),List.getElem?_drop]
     congr 2
     simp
     omega
theorem blank_len {b:List Int} (h:18 ≤ b.length):(blankP b).length = b.length:=by
 simp [blankP]; omega
theorem ext_getD {a b:List Int} (h:a.length = b.length) (e:∀ i,i < a.length → a.getD i 0 = b.getD i 0):a = b:=by
 apply List.ext_getElem h
 intro i h1 h2
 have:=e i h1
 simpa [List.getD_eq_getElem?_getD,h1,h2] using this
theorem isB_blank {b:List Int} (hb:isB b):isB (blankP b):=by
 unfold blankP
 refine isB_app (isB_app (isB_take hb _) ?_) (isB_drop hb _)
 intro x hx
 simp at hx
 omega
theorem set_getD (b:List Int) (at_ i:Nat) (x:Int) (h:at_ < b.length):(b.set at_ x).getD i 0 = if i = at_ then x else b.getD i 0:=by
 simp only [List.getD_eq_getElem?_getD,List.getElem?_set]
 by_cases e:at_ = i
 · subst e; simp [h]
 · rw [if_neg e,if_neg (fun k=>e k.symm)]
end Go.Proofs.YtapgoboiljjecaaGreatDoor

/- Attributes as texts (no program): paths, words, attributes; what is decoded has the bytes that were read as its encoding. -/
namespace Go.Proofs.YtapgoboiljjecaaGreatDoor
open Go Go.Am
structure Seg where
  Kind:Int
  AS:List Int
structure Tlv where
  Kind:Int
  Val:List Int
def wordsAt (b:List Int) (at_ n:Nat):List Int:=(List.range n).map fun i=>numAt b (at_ + i * 4) 4
def wordsB (l:List Int):List Int:=(l.map (numB 4)).flatten
theorem wordsAt_succ (b:List Int) (at_ n:Nat):wordsAt b at_ (n + 1) = wordsAt b at_ n ++ [numAt b (at_ + n * 4) 4]:=by
 simp [wordsAt,List.range_succ]
theorem wordsAt_len (b:List Int) (at_ n:Nat):(wordsAt b at_ n).length = n:=by simp [wordsAt]
theorem wordsB_app (l m:List Int):wordsB (l ++ m) = wordsB l ++ wordsB m:=by simp [wordsB]
theorem wordsB_one (x:Int):wordsB [x] = numB 4 x:=by simp [wordsB]
theorem wordsB_len (l:List Int):(wordsB l).length = 4 * l.length:=by
 induction l with
 | nil=>rfl
 | cons x l ih =>
   have:wordsB (x :: l) = numB 4 x ++ wordsB l:=by simp [wordsB]
   rw [this,List.length_append,numB_len,ih,List.length_cons]; omega
theorem wordsB_at {b:List Int} (hb:isB b) (at_:Nat):∀ n,at_ + n * 4 ≤ b.length → wordsB (wordsAt b at_ n) = (b.drop at_).take (n * 4)
 | 0,_=>by simp [wordsAt,wordsB]
 | n + 1,h=>by
   rw [wordsAt_succ,wordsB_app,wordsB_one,wordsB_at hb at_ n (by omega),numB_numAt hb _ 4 (by omega)]
   rw [show (n + 1) * 4 = n * 4 + 4 by omega,List.take_add,List.drop_drop]
theorem wordsAt_in {b:List Int} (hb:isB b) (at_ n:Nat):∀ x ∈ wordsAt b at_ n,0 ≤ x ∧ x < 4294967296:=by
 intro x hx
 obtain ⟨i,_,rfl⟩:=List.mem_map.1 hx
 exact numAt_in hb _ 4
def okSeg (s:Seg):Prop:=(0 ≤ s.Kind ∧ s.Kind ≤ 255) ∧ (1 ≤ s.AS.length ∧ s.AS.length ≤ 255) ∧ ∀ x ∈ s.AS,0 ≤ x ∧ x < 4294967296
def segB (s:Seg):List Int:=[s.Kind,(s.AS.length:Int)] ++ wordsB s.AS
def pathB (p:List Seg):List Int:=(p.map segB).flatten
theorem pathB_app (p q:List Seg):pathB (p ++ q) = pathB p ++ pathB q:=by simp [pathB]
def rdPath (b:List Int) (p:List Seg):List Seg × Bool :=
 if b.length = 0 then (p,true)
 else if b.length < 2 ∨ b.getD 1 0 = 0 ∨ (b.length:Int) < 2 + b.getD 1 0 * 4 then ([],false)
 else rdPath (b.drop (2 + (b.getD 1 0).toNat * 4)) (p ++ [⟨b.getD 0 0,wordsAt b 2 (b.getD 1 0).toNat⟩])
termination_by b.length
decreasing_by simp only [List.length_drop]; omega
theorem two_bytes {b:List Int} (h:2 ≤ b.length):b = [b.getD 0 0,b.getD 1 0] ++ b.drop 2:=by
 match b,h with
 | x :: y :: b,_=>rfl
theorem three_bytes {b:List Int} (h:3 ≤ b.length):b = [b.getD 0 0,b.getD 1 0,b.getD 2 0] ++ b.drop 3:=by
 match b,h with
 | x :: y :: z :: b,_=>rfl
theorem rdPath_ok:∀ (n:Nat) (b:List Int) (p:List Seg),b.length ≤ n → isB b → (rdPath b p).2 = true →
   pathB (rdPath b p).1 = pathB p ++ b ∧ (∀ s ∈ (rdPath b p).1,s ∈ p ∨ okSeg s) ∧ (rdPath b p).1.length ≤ p.length + b.length:=by
 intro n
 induction n with
 | zero =>
   intro b p hn hb h
   have e:b = []:=List.eq_nil_of_length_eq_zero (by omega)
   subst e
   rw [rdPath,if_pos (show ([]:List Int).length = 0 from rfl)]
   exact ⟨by simp,fun s hs=>.inl hs,by simp⟩
 | succ n ih =>
   intro b p hn hb h
   by_cases h0:b.length = 0
   · rw [rdPath,if_pos h0]
     have e:b = []:=List.eq_nil_of_length_eq_zero h0
     subst e
     exact ⟨by simp,fun s hs=>.inl hs,by simp⟩
   rw [rdPath,if_neg h0] at h ⊢
   by_cases h1:b.length < 2 ∨ b.getD 1 0 = 0 ∨ (b.length:Int) < 2 + b.getD 1 0 * 4
   · rw [if_pos h1] at h; cases h
   rw [if_neg h1] at h ⊢
   have hx:=getD_in hb 1
   have hy:=getD_in hb 0
   obtain ⟨k,hk⟩:∃ k:Nat,b.getD 1 0 = k:=⟨(b.getD 1 0).toNat,by omega⟩
   have hl:2 + k * 4 ≤ b.length:=by omega
   have e:=two_bytes (b:=b) (by omega)
   rw [hk,Int.toNat_natCast] at h ⊢
   obtain ⟨q1,q2,q3⟩:=ih _ _ (by simp only [List.length_drop]; omega) (isB_drop hb _) h
   refine ⟨?_,?_,?_⟩
   · rw [q1,pathB_app]
     have:pathB [⟨b.getD 0 0,wordsAt b 2 k⟩] = [b.getD 0 0,b.getD 1 0] ++ (b.drop 2).take (k * 4):=by
       simp only [pathB,segB,List.map_cons,List.map_nil,List.flatten_cons,List.flatten_nil,List.append_nil,wordsAt_len]
       rw [wordsB_at hb 2 k (by omega),hk]
     rw [this,List.append_assoc,List.append_assoc,← List.drop_drop,List.take_append_drop]
     rw [← e]
   · intro s hs
     rcases q2 s hs with h | h
     · rcases List.mem_append.1 h with h | h
       · exact .inl h
       · refine .inr ?_
         simp only [List.mem_singleton] at h
         subst h
         exact ⟨hy,by simp only [wordsAt_len]; omega,wordsAt_in hb 2 k⟩
     · exact .inr h
   · simp only [List.length_append,List.length_drop,List.length_cons,List.length_nil] at q3
     omega
def rdWords (b:List Int):List Int:=wordsAt b 0 (b.length / 4)
def okWords (b:List Int):Bool:=decide (0 < b.length) && decide (b.length % 4 = 0)
theorem rdWords_ok {b:List Int} (hb:isB b) (h:okWords b = true):wordsB (rdWords b) = b ∧ rdWords b ≠ [] ∧ (∀ x ∈ rdWords b,0 ≤ x ∧ x < 4294967296) ∧ (rdWords b).length ≤ b.length:=by
 simp only [okWords,Bool.and_eq_true,decide_eq_true_eq] at h
 refine ⟨?_,?_,wordsAt_in hb 0 _,?_⟩
 · unfold rdWords
   rw [wordsB_at hb 0 _ (by omega),List.drop_zero,List.take_of_length_le (by omega)]
 · intro e
   have:=wordsAt_len b 0 (b.length / 4)
   rw [show wordsAt b 0 (b.length / 4) = [] from e] at this
   simp at this
   omega
 · unfold rdWords; rw [wordsAt_len]; omega
structure Att where
  Origin:Int
  Path:List Seg
  Next:Int
  HasMED:Bool
  MED:Int
  HasPref:Bool
  Pref:Int
  Atomic:Bool
  HasAggr:Bool
  AggrAS:Int
  AggrAddr:Int
  Comm:List Int
  HasOrig:Bool
  Origr:Int
  Clus:List Int
  Unk:List Tlv
def att0:Att:=⟨0,[],0,false,0,false,0,false,false,0,0,[],false,0,[],[]⟩
def w4 (v:List Int):Int:=if v.length = 4 then numAt v 0 4 else 0
def rdA (a:Att) (k:Int) (v:List Int):Att × Bool :=
 if k = 1 then (if v.length ≠ 1 then (a,false) else ({ a with Origin:=v.getD 0 0 },true))
 else if k = 2 then ({ a with Path:=(rdPath v []).1 },(rdPath v []).2)
 else if k = 3 then ({ a with Next:=w4 v },decide (v.length = 4))
 else if k = 4 then ({ a with HasMED:=true,MED:=w4 v },decide (v.length = 4))
 else if k = 5 then ({ a with HasPref:=true,Pref:=w4 v },decide (v.length = 4))
 else if k = 6 then ({ a with Atomic:=true },decide (v.length = 0))
 else if k = 7 then (if v.length ≠ 8 then (a,false) else ({ a with HasAggr:=true,AggrAS:=numAt v 0 4,AggrAddr:=numAt v 4 4 },true))
 else if k = 8 then ({ a with Comm:=rdWords v },okWords v)
 else if k = 9 then ({ a with HasOrig:=true,Origr:=w4 v },decide (v.length = 4))
 else if k = 10 then ({ a with Clus:=rdWords v },okWords v)
 else ({ a with Unk:=a.Unk ++ [⟨k,v⟩] },true)
def flg (k:Int):Int:=if 10 < k then 224 else ([224,64,64,64,128,64,64,192,192,128,128]:List Int).getD k.toNat 0
def longB (x:Int):Bool:=decide (x / 16 % 2 = 1)
def clrB (x:Int):Int:=if longB x = true then x - 16 else x
def hdB (x:Int):Nat:=if longB x = true then 4 else 3
def tlvB (t:Tlv):List Int:=if 255 < t.Val.length then [flg t.Kind + 16,t.Kind] ++ numB 2 t.Val.length ++ t.Val else [flg t.Kind,t.Kind,(t.Val.length:Int)] ++ t.Val
def lenB (b:List Int):Nat:=(numAt b 2 (hdB (b.getD 0 0) - 2)).toNat
def decA (b:List Int) (a:Att) (last need:Int):Att × Int :=
 if b.length = 0 then (if need < 3 then (att0,6) else (a,0))
 else if b.length < hdB (b.getD 0 0) then (att0,3)
 else if b.length < hdB (b.getD 0 0) + lenB b then (att0,3)
 else if b.getD 1 0 ≤ last then (att0,16)
 else if clrB (b.getD 0 0) ≠ flg (b.getD 1 0) ∨ (hdB (b.getD 0 0) = 4 ∧ lenB b ≤ 255) ∨ (rdA a (b.getD 1 0) ((b.drop (hdB (b.getD 0 0))).take (lenB b))).2 = false then (att0,2)
 else decA (b.drop (hdB (b.getD 0 0) + lenB b)) (rdA a (b.getD 1 0) ((b.drop (hdB (b.getD 0 0))).take (lenB b))).1 (b.getD 1 0) (if 1 ≤ b.getD 1 0 ∧ b.getD 1 0 ≤ 3 then need + 1 else need)
termination_by b.length
decreasing_by
 have:3 ≤ hdB (b.getD 0 0):=by unfold hdB; split <;> omega
 simp only [List.length_drop]; omega
def tlvsA (s1 s2 s3:Bool) (a:Att):List Tlv :=
 (if s1 = true then [⟨1,[a.Origin]⟩] else []) ++ (if s2 = true then [⟨2,pathB a.Path⟩] else []) ++ (if s3 = true then [⟨3,numB 4 a.Next⟩] else []) ++
 (if a.HasMED = true then [⟨4,numB 4 a.MED⟩] else []) ++ (if a.HasPref = true then [⟨5,numB 4 a.Pref⟩] else []) ++ (if a.Atomic = true then [⟨6,[]⟩] else []) ++
 (if a.HasAggr = true then [⟨7,numB 4 a.AggrAS ++ numB 4 a.AggrAddr⟩] else []) ++ (if 0 < a.Comm.length then [⟨8,wordsB a.Comm⟩] else []) ++
 (if a.HasOrig = true then [⟨9,numB 4 a.Origr⟩] else []) ++ (if 0 < a.Clus.length then [⟨10,wordsB a.Clus⟩] else []) ++ a.Unk
def attsB (a:Att):List Int:=((tlvsA true true true a).map tlvB).flatten
end Go.Proofs.YtapgoboiljjecaaGreatDoor

namespace Go.Proofs.YtapgoboiljjecaaGreatDoor
open Go Go.Am
theorem numAt_1 (b:List Int) (at_:Nat):numAt b at_ 1 = b.getD at_ 0:=by simp [numAt]
theorem hdB_34 (x:Int):hdB x = 3 ∨ hdB x = 4:=by unfold hdB; split <;> simp
theorem head_ok {b:List Int} (hb:isB b) (h1:¬ b.length < hdB (b.getD 0 0)) (h2:¬ b.length < hdB (b.getD 0 0) + lenB b) (h3:clrB (b.getD 0 0) = flg (b.getD 1 0)) (h4:¬ (hdB (b.getD 0 0) = 4 ∧ lenB b ≤ 255)) :
   b = tlvB ⟨b.getD 1 0,(b.drop (hdB (b.getD 0 0))).take (lenB b)⟩ ++ b.drop (hdB (b.getD 0 0) + lenB b):=by
 have hv:((b.drop (hdB (b.getD 0 0))).take (lenB b)).length = lenB b:=by simp only [List.length_take,List.length_drop]; omega
 have e0:b.drop (hdB (b.getD 0 0)) = (b.drop (hdB (b.getD 0 0))).take (lenB b) ++ b.drop (hdB (b.getD 0 0) + lenB b):=by
   rw [← List.drop_drop,List.take_append_drop]
 unfold tlvB
 simp only [hv]
 by_cases hl:longB (b.getD 0 0) = true
 · have hh:hdB (b.getD 0 0) = 4:=by unfold hdB; rw [if_pos hl]
   have hc:b.getD 0 0 = flg (b.getD 1 0) + 16:=by unfold clrB at h3; rw [if_pos hl] at h3; omega
   rw [hh] at h1 h2 h4 e0 ⊢
   have hn:=numAt_in hb 2 2
   have hln:numAt b 2 2 = (lenB b:Nat):=by
     unfold lenB; rw [hh]; show numAt b 2 2 = ((numAt b 2 2).toNat:Int); omega
   have hgt:255 < lenB b:=by omega
   rw [if_pos hgt,← hc,← hln,numB_numAt hb 2 2 (by omega)]
   have e:=two_bytes (b:=b) (by omega)
   have e4:b.drop 2 = (b.drop 2).take 2 ++ b.drop 4:=by
     rw [show b.drop 4 = (b.drop 2).drop 2 by rw [List.drop_drop],List.take_append_drop]
   rw [List.append_assoc,← e0,List.append_assoc,← e4]
   exact e
 · have hh:hdB (b.getD 0 0) = 3:=by unfold hdB; rw [if_neg hl]
   have hc:b.getD 0 0 = flg (b.getD 1 0):=by unfold clrB at h3; rw [if_neg hl] at h3; omega
   rw [hh] at h1 h2 h4 e0 ⊢
   have hg:=getD_in hb 2
   have hln:b.getD 2 0 = (lenB b:Nat):=by
     unfold lenB; rw [hh,show (3 - 2:Nat) = 1 from rfl,numAt_1]; omega
   have hgt:¬ 255 < lenB b:=by omega
   rw [if_neg hgt,← hc,← hln]
   have e:=three_bytes (b:=b) (by omega)
   rw [List.append_assoc,← e0]
   exact e
structure Fresh (last:Int) (s1 s2 s3:Bool) (a:Att):Prop where
  f1:last < 1 → s1 = false
  f2:last < 2 → s2 = false
  f3:last < 3 → s3 = false
  f4:last < 4 → a.HasMED = false
  f5:last < 5 → a.HasPref = false
  f6:last < 6 → a.Atomic = false
  f7:last < 7 → a.HasAggr = false
  f8:last < 8 → a.Comm = []
  f9:last < 9 → a.HasOrig = false
  f10:last < 10 → a.Clus = []
  f11:last < 11 → a.Unk = []
theorem w4_num {v:List Int} (hv:isB v) (h:v.length = 4):numB 4 (w4 v) = v:=by
 unfold w4
 rw [if_pos h,numB_numAt hv 0 4 (by omega),List.drop_zero,List.take_of_length_le (by omega)]
theorem one_getD {v:List Int} (h:v.length = 1):[v.getD 0 0] = v:=by
 match v,h with
 | [x],_=>rfl
theorem aggr_num {v:List Int} (hv:isB v) (h:v.length = 8):numB 4 (numAt v 0 4) ++ numB 4 (numAt v 4 4) = v:=by
 rw [numB_numAt hv 0 4 (by omega),numB_numAt hv 4 4 (by omega),List.drop_zero,List.take_of_length_le (show (v.drop 4).length ≤ 4 by simp; omega),List.take_append_drop]
set_option maxHeartbeats 2000000 in
theorem rdA_step {last k:Int} {s1 s2 s3:Bool} {a:Att} {v:List Int} (hf:Fresh last s1 s2 s3 a) (hv:isB v) (hk:last < k) (hk1:1 ≤ k) (h:(rdA a k v).2 = true) :
   tlvsA (s1 || decide (k = 1)) (s2 || decide (k = 2)) (s3 || decide (k = 3)) (rdA a k v).1 = tlvsA s1 s2 s3 a ++ [⟨k,v⟩] ∧
   Fresh k (s1 || decide (k = 1)) (s2 || decide (k = 2)) (s3 || decide (k = 3)) (rdA a k v).1:=by
 obtain ⟨f1,f2,f3,f4,f5,f6,f7,f8,f9,f10,f11⟩:=hf
 unfold rdA at h ⊢
 by_cases e1:k = 1
 · subst e1
   by_cases hl:v.length = 1
   · simp only [if_true,ne_eq,hl,not_true_eq_false,if_false]
     simp only [f1 (by omega),f2 (by omega),f3 (by omega),f4 (by omega),f5 (by omega),f6 (by omega),f7 (by omega),f8 (by omega),f9 (by omega),f10 (by omega),f11 (by omega)]
     refine ⟨by simp only [tlvsA]; rw [one_getD hl]; simp [f4 (by omega),f5 (by omega),f6 (by omega),f7 (by omega),f8 (by omega),f9 (by omega),f10 (by omega),f11 (by omega)],?_⟩
     constructor <;> intro _ <;> first | omega | (simp; done) | (simp only; first | exact f4 (by omega) | exact f5 (by omega) | exact f6 (by omega) | exact f7 (by omega) | exact f8 (by omega) | exact f9 (by omega) | exact f10 (by omega) | exact f11 (by omega))
   · simp [hl] at h
 by_cases e2:k = 2
 · subst e2
   simp only [if_neg e1,if_true] at h ⊢
   obtain ⟨q1,_,_⟩:=rdPath_ok v.length v [] (Nat.le_refl _) hv h
   simp only [pathB,List.map_nil,List.flatten_nil,List.nil_append] at q1
   refine ⟨by simp only [tlvsA,pathB]; rw [q1]; simp [f2 (by omega),f3 (by omega),f4 (by omega),f5 (by omega),f6 (by omega),f7 (by omega),f8 (by omega),f9 (by omega),f10 (by omega),f11 (by omega)],?_⟩
   constructor <;> intro _ <;> first | omega | (simp [f3 (by omega)]; done) | (simp only; first | exact f4 (by omega) | exact f5 (by omega) | exact f6 (by omega) | exact f7 (by omega) | exact f8 (by omega) | exact f9 (by omega) | exact f10 (by omega) | exact f11 (by omega))
 by_cases e3:k = 3
 · subst e3
   simp only [if_neg e1,if_neg e2,if_true,decide_eq_true_eq] at h ⊢
   refine ⟨by simp only [tlvsA]; rw [w4_num hv h]; simp [f3 (by omega),f4 (by omega),f5 (by omega),f6 (by omega),f7 (by omega),f8 (by omega),f9 (by omega),f10 (by omega),f11 (by omega)],?_⟩
   constructor <;> intro _ <;> first | omega | (simp only; first | exact f4 (by omega) | exact f5 (by omega) | exact f6 (by omega) | exact f7 (by omega) | exact f8 (by omega) | exact f9 (by omega) | exact f10 (by omega) | exact f11 (by omega))
 by_cases e4:k = 4
 · subst e4
   simp only [if_neg e1,if_neg e2,if_neg e3,if_true,decide_eq_true_eq] at h ⊢
   refine ⟨by simp only [tlvsA]; rw [w4_num hv h]; simp [f4 (by omega),f5 (by omega),f6 (by omega),f7 (by omega),f8 (by omega),f9 (by omega),f10 (by omega),f11 (by omega)],?_⟩
   constructor <;> intro _ <;> first | omega | (simp only; first | exact f5 (by omega) | exact f6 (by omega) | exact f7 (by omega) | exact f8 (by omega) | exact f9 (by omega) | exact f10 (by omega) | exact f11 (by omega))
 by_cases e5:k = 5
 · subst e5
   simp only [if_neg e1,if_neg e2,if_neg e3,if_neg e4,if_true,decide_eq_true_eq] at h ⊢
   refine ⟨by simp only [tlvsA]; rw [w4_num hv h]; simp [f5 (by omega),f6 (by omega),f7 (by omega),f8 (by omega),f9 (by omega),f10 (by omega),f11 (by omega)],?_⟩
   constructor <;> intro _ <;> first | omega | (simp only; first | exact f6 (by omega) | exact f7 (by omega) | exact f8 (by omega) | exact f9 (by omega) | exact f10 (by omega) | exact f11 (by omega))
 by_cases e6:k = 6
 · subst e6
   simp only [if_neg e1,if_neg e2,if_neg e3,if_neg e4,if_neg e5,if_true,decide_eq_true_eq] at h ⊢
   have hv0:v = []:=List.eq_nil_of_length_eq_zero h
   refine ⟨by simp only [tlvsA]; rw [hv0]; simp [f6 (by omega),f7 (by omega),f8 (by omega),f9 (by omega),f10 (by omega),f11 (by omega)],?_⟩
   constructor <;> intro _ <;> first | omega | (simp only; first | exact f7 (by omega) | exact f8 (by omega) | exact f9 (by omega) | exact f10 (by omega) | exact f11 (by omega))
 by_cases e7:k = 7
 · subst e7
   by_cases hl:v.length = 8
   · simp only [if_neg e1,if_neg e2,if_neg e3,if_neg e4,if_neg e5,if_neg e6,if_true,ne_eq,hl,not_true_eq_false,if_false]
     refine ⟨by simp only [tlvsA]; rw [aggr_num hv hl]; simp [f7 (by omega),f8 (by omega),f9 (by omega),f10 (by omega),f11 (by omega)],?_⟩
     constructor <;> intro _ <;> first | omega | (simp only; first | exact f8 (by omega) | exact f9 (by omega) | exact f10 (by omega) | exact f11 (by omega))
   · simp [hl] at h
 by_cases e8:k = 8
 · subst e8
   simp only [if_neg e1,if_neg e2,if_neg e3,if_neg e4,if_neg e5,if_neg e6,if_neg e7,if_true] at h ⊢
   obtain ⟨q1,q2,_,_⟩:=rdWords_ok hv h
   have q3:0 < (rdWords v).length:=List.length_pos_iff.2 q2
   refine ⟨by simp only [tlvsA]; rw [q1]; simp [q3,f8 (by omega),f9 (by omega),f10 (by omega),f11 (by omega)],?_⟩
   constructor <;> intro _ <;> first | omega | (simp only; first | exact f9 (by omega) | exact f10 (by omega) | exact f11 (by omega))
 by_cases e9:k = 9
 · subst e9
   simp only [if_neg e1,if_neg e2,if_neg e3,if_neg e4,if_neg e5,if_neg e6,if_neg e7,if_neg e8,if_true,decide_eq_true_eq] at h ⊢
   refine ⟨by simp only [tlvsA]; rw [w4_num hv h]; simp [f9 (by omega),f10 (by omega),f11 (by omega)],?_⟩
   constructor <;> intro _ <;> first | omega | (simp only; first | exact f10 (by omega) | exact f11 (by omega))
 by_cases e10:k = 10
 · subst e10
   simp only [if_neg e1,if_neg e2,if_neg e3,if_neg e4,if_neg e5,if_neg e6,if_neg e7,if_neg e8,if_neg e9,if_true] at h ⊢
   obtain ⟨q1,q2,_,_⟩:=rdWords_ok hv h
   have q3:0 < (rdWords v).length:=List.length_pos_iff.2 q2
   refine ⟨by simp only [tlvsA]; rw [q1]; simp [q3,f10 (by omega),f11 (by omega)],?_⟩
   constructor <;> intro _ <;> first | omega | (simp only; exact f11 (by omega))
 simp only [if_neg e1,if_neg e2,if_neg e3,if_neg e4,if_neg e5,if_neg e6,if_neg e7,if_neg e8,if_neg e9,if_neg e10] at h ⊢
 refine ⟨by simp only [tlvsA]; simp [e1,e2,e3],?_⟩
 constructor <;> intro _ <;> omega
end Go.Proofs.YtapgoboiljjecaaGreatDoor

namespace Go.Proofs.YtapgoboiljjecaaGreatDoor
open Go Go.Am
def in32 (x:Int):Prop:=0 ≤ x ∧ x < 4294967296
structure okAtt (a:Att):Prop where
  org:0 ≤ a.Origin ∧ a.Origin ≤ 255
  path:∀ s ∈ a.Path,okSeg s
  next:in32 a.Next
  med:in32 a.MED
  pref:in32 a.Pref
  aas:in32 a.AggrAS
  aad:in32 a.AggrAddr
  comm:∀ x ∈ a.Comm,in32 x
  origr:in32 a.Origr
  clus:∀ x ∈ a.Clus,in32 x
  unk:∀ t ∈ a.Unk,(0 ≤ t.Kind ∧ t.Kind ≤ 255) ∧ isB t.Val ∧ t.Val.length ≤ 65535
  plen:a.Path.length ≤ 65535
  clen:a.Comm.length ≤ 65535
  llen:a.Clus.length ≤ 65535
theorem in32_0:in32 0:=by unfold in32; omega
theorem okAtt_0:okAtt att0:=⟨by simp [att0],by simp [att0],in32_0,in32_0,in32_0,in32_0,in32_0,by simp [att0],in32_0,by simp [att0],by simp [att0],by simp [att0],by simp [att0],by simp [att0]⟩
theorem w4_in {v:List Int} (hv:isB v):in32 (w4 v):=by
 unfold w4; split
 · exact numAt_in hv 0 4
 · exact in32_0
theorem rdA_ok {a:Att} {k:Int} {v:List Int} (ha:okAtt a) (hv:isB v) (hl:v.length ≤ 65535) (hk:0 ≤ k ∧ k ≤ 255) (h:(rdA a k v).2 = true):okAtt (rdA a k v).1:=by
 obtain ⟨h1,h2,h3,h4,h5,h6,h7,h8,h9,h10,h11,h12,h13,h14⟩:=ha
 have hw:=w4_in hv
 unfold rdA at h ⊢
 by_cases e1:k = 1
 · rw [if_pos e1] at h ⊢
   split
   · exact ⟨h1,h2,h3,h4,h5,h6,h7,h8,h9,h10,h11,h12,h13,h14⟩
   · exact ⟨getD_in hv 0,h2,h3,h4,h5,h6,h7,h8,h9,h10,h11,h12,h13,h14⟩
 rw [if_neg e1] at h ⊢
 by_cases e2:k = 2
 · rw [if_pos e2] at h ⊢
   obtain ⟨_,q2,q3⟩:=rdPath_ok v.length v [] (Nat.le_refl _) hv h
   exact ⟨h1,fun s hs=>(q2 s hs).resolve_left (by simp),h3,h4,h5,h6,h7,h8,h9,h10,h11,by simp only [List.length_nil] at q3; simp only; omega,h13,h14⟩
 rw [if_neg e2] at h ⊢
 by_cases e3:k = 3
 · rw [if_pos e3]; exact ⟨h1,h2,hw,h4,h5,h6,h7,h8,h9,h10,h11,h12,h13,h14⟩
 rw [if_neg e3] at h ⊢
 by_cases e4:k = 4
 · rw [if_pos e4]; exact ⟨h1,h2,h3,hw,h5,h6,h7,h8,h9,h10,h11,h12,h13,h14⟩
 rw [if_neg e4] at h ⊢
 by_cases e5:k = 5
 · rw [if_pos e5]; exact ⟨h1,h2,h3,h4,hw,h6,h7,h8,h9,h10,h11,h12,h13,h14⟩
 rw [if_neg e5] at h ⊢
 by_cases e6:k = 6
 · rw [if_pos e6]; exact ⟨h1,h2,h3,h4,h5,h6,h7,h8,h9,h10,h11,h12,h13,h14⟩
 rw [if_neg e6] at h ⊢
 by_cases e7:k = 7
 · rw [if_pos e7]
   split
   · exact ⟨h1,h2,h3,h4,h5,h6,h7,h8,h9,h10,h11,h12,h13,h14⟩
   · exact ⟨h1,h2,h3,h4,h5,numAt_in hv 0 4,numAt_in hv 4 4,h8,h9,h10,h11,h12,h13,h14⟩
 rw [if_neg e7] at h ⊢
 by_cases e8:k = 8
 · rw [if_pos e8] at h ⊢
   obtain ⟨_,_,q3,q4⟩:=rdWords_ok hv h
   exact ⟨h1,h2,h3,h4,h5,h6,h7,q3,h9,h10,h11,h12,by simp only; omega,h14⟩
 rw [if_neg e8] at h ⊢
 by_cases e9:k = 9
 · rw [if_pos e9]; exact ⟨h1,h2,h3,h4,h5,h6,h7,h8,hw,h10,h11,h12,h13,h14⟩
 rw [if_neg e9] at h ⊢
 by_cases e10:k = 10
 · rw [if_pos e10] at h ⊢
   obtain ⟨_,_,q3,q4⟩:=rdWords_ok hv h
   exact ⟨h1,h2,h3,h4,h5,h6,h7,h8,h9,q3,h11,h12,h13,by simp only; omega⟩
 rw [if_neg e10]
 refine ⟨h1,h2,h3,h4,h5,h6,h7,h8,h9,h10,?_,h12,h13,h14⟩
 intro t ht
 rcases List.mem_append.1 ht with ht | ht
 · exact h11 t ht
 · simp only [List.mem_singleton] at ht
   subst ht
   exact ⟨hk,hv,hl⟩
theorem rdA_unk (a:Att) (k:Int) (v:List Int):(rdA a k v).1.Unk = a.Unk ∨ (rdA a k v).1.Unk = a.Unk ++ [⟨k,v⟩]:=by
 unfold rdA
 by_cases e1:k = 1
 · rw [if_pos e1]
   by_cases hl:v.length ≠ 1
   · rw [if_pos hl]; exact .inl rfl
   · rw [if_neg hl]; exact .inl rfl
 rw [if_neg e1]
 by_cases e2:k = 2
 · rw [if_pos e2]; exact .inl rfl
 rw [if_neg e2]
 by_cases e3:k = 3
 · rw [if_pos e3]; exact .inl rfl
 rw [if_neg e3]
 by_cases e4:k = 4
 · rw [if_pos e4]; exact .inl rfl
 rw [if_neg e4]
 by_cases e5:k = 5
 · rw [if_pos e5]; exact .inl rfl
 rw [if_neg e5]
 by_cases e6:k = 6
 · rw [if_pos e6]; exact .inl rfl
 rw [if_neg e6]
 by_cases e7:k = 7
 · rw [if_pos e7]
   by_cases hl:v.length ≠ 8
   · rw [if_pos hl]; exact .inl rfl
   · rw [if_neg hl]; exact .inl rfl
 rw [if_neg e7]
 by_cases e8:k = 8
 · rw [if_pos e8]; exact .inl rfl
 rw [if_neg e8]
 by_cases e9:k = 9
 · rw [if_pos e9]; exact .inl rfl
 rw [if_neg e9]
 by_cases e10:k = 10
 · rw [if_pos e10]; exact .inl rfl
 rw [if_neg e10]
 exact .inr rfl
theorem rdA_k0 (a:Att) (k:Int) (v:List Int) (h:k ≤ 0):(rdA a k v).1.Unk = a.Unk ++ [⟨k,v⟩]:=by
 unfold rdA
 rw [if_neg (by omega),if_neg (by omega),if_neg (by omega),if_neg (by omega),if_neg (by omega),if_neg (by omega),if_neg (by omega),if_neg (by omega),if_neg (by omega),if_neg (by omega)]
def badU (a:Att):Prop:=∃ t ∈ a.Unk,t.Kind ≤ 10
def cnt3 (s1 s2 s3:Bool):Int:=(if s1 = true then 1 else 0) + (if s2 = true then 1 else 0) + (if s3 = true then 1 else 0)
theorem cnt_step {last k:Int} {s1 s2 s3:Bool} {a:Att} (hf:Fresh last s1 s2 s3 a) (hk:last < k) :
   cnt3 (s1 || decide (k = 1)) (s2 || decide (k = 2)) (s3 || decide (k = 3)) = if 1 ≤ k ∧ k ≤ 3 then cnt3 s1 s2 s3 + 1 else cnt3 s1 s2 s3:=by
 unfold cnt3
 by_cases e1:k = 1
 · subst e1; simp [hf.f1 (by omega),hf.f2 (by omega),hf.f3 (by omega)]
 by_cases e2:k = 2
 · subst e2; simp [hf.f2 (by omega),hf.f3 (by omega)]
 by_cases e3:k = 3
 · subst e3; simp [hf.f3 (by omega)]
 rw [if_neg (show ¬ (1 ≤ k ∧ k ≤ 3) by omega)]
 simp [e1,e2,e3]
theorem decA_bad:∀ (n:Nat) (b:List Int) (a:Att) (last need:Int),b.length ≤ n → badU a → (decA b a last need).2 = 0 → badU (decA b a last need).1:=by
 intro n
 induction n with
 | zero =>
   intro b a last need hn hi h
   rw [decA,if_pos (by omega)] at h ⊢
   by_cases hd:need < 3
   · rw [if_pos hd] at h; simp at h
   · rw [if_neg hd]; exact hi
 | succ n ih =>
   intro b a last need hn hi h
   by_cases h0:b.length = 0
   · rw [decA,if_pos h0] at h ⊢
     by_cases hd:need < 3
     · rw [if_pos hd] at h; simp at h
     · rw [if_neg hd]; exact hi
   rw [decA,if_neg h0] at h ⊢
   by_cases g1:b.length < hdB (b.getD 0 0)
   · rw [if_pos g1] at h; simp at h
   rw [if_neg g1] at h ⊢
   by_cases g2:b.length < hdB (b.getD 0 0) + lenB b
   · rw [if_pos g2] at h; simp at h
   rw [if_neg g2] at h ⊢
   by_cases g3:b.getD 1 0 ≤ last
   · rw [if_pos g3] at h; simp at h
   rw [if_neg g3] at h ⊢
   by_cases g4:clrB (b.getD 0 0) ≠ flg (b.getD 1 0) ∨ (hdB (b.getD 0 0) = 4 ∧ lenB b ≤ 255) ∨ (rdA a (b.getD 1 0) ((b.drop (hdB (b.getD 0 0))).take (lenB b))).2 = false
   · rw [if_pos g4] at h; simp at h
   rw [if_neg g4] at h ⊢
   have hu:=rdA_unk a (b.getD 1 0) ((b.drop (hdB (b.getD 0 0))).take (lenB b))
   have hh:=hdB_34 (b.getD 0 0)
   refine ih _ _ _ _ (by simp only [List.length_drop]; omega) ?_ h
   obtain ⟨t,ht,e⟩:=hi
   rcases hu with q | q
   · exact ⟨t,by rw [q]; exact ht,e⟩
   · exact ⟨t,by rw [q]; exact List.mem_append_left _ ht,e⟩
theorem decA_ok:∀ (n:Nat) (b:List Int) (a:Att) (last need:Int) (s1 s2 s3:Bool),b.length ≤ n → isB b → okAtt a → -1 ≤ last →
   (badU a ∨ (Fresh last s1 s2 s3 a ∧ need = cnt3 s1 s2 s3)) → (decA b a last need).2 = 0 →
   okAtt (decA b a last need).1 ∧ (decA b a last need).1.Unk.length ≤ a.Unk.length + b.length ∧ (badU (decA b a last need).1 ∨ attsB (decA b a last need).1 = ((tlvsA s1 s2 s3 a).map tlvB).flatten ++ b):=by
 intro n
 induction n with
 | zero =>
   intro b a last need s1 s2 s3 hn hb ha hl hi h
   have e:b = []:=List.eq_nil_of_length_eq_zero (by omega)
   subst e
   rw [decA,if_pos (show ([]:List Int).length = 0 from rfl)] at h ⊢
   by_cases hd:need < 3
   · rw [if_pos hd] at h; simp at h
   rw [if_neg hd]
   refine ⟨ha,by simp,?_⟩
   rcases hi with hi | ⟨_,hi⟩
   · exact .inl hi
   · refine .inr ?_
     have:s1 = true ∧ s2 = true ∧ s3 = true:=by
       unfold cnt3 at hi
       cases s1 <;> cases s2 <;> cases s3 <;> simp at hi ⊢ <;> omega
     obtain ⟨rfl,rfl,rfl⟩:=this
     simp [attsB]
 | succ n ih =>
   intro b a last need s1 s2 s3 hn hb ha hl hi h
   by_cases h0:b.length = 0
   · have e:b = []:=List.eq_nil_of_length_eq_zero h0
     subst e
     rw [decA,if_pos (show ([]:List Int).length = 0 from rfl)] at h ⊢
     by_cases hd:need < 3
     · rw [if_pos hd] at h; simp at h
     rw [if_neg hd]
     refine ⟨ha,by simp,?_⟩
     rcases hi with hi | ⟨_,hi⟩
     · exact .inl hi
     · refine .inr ?_
       have:s1 = true ∧ s2 = true ∧ s3 = true:=by
         unfold cnt3 at hi
         cases s1 <;> cases s2 <;> cases s3 <;> simp at hi ⊢ <;> omega
       obtain ⟨rfl,rfl,rfl⟩:=this
       simp [attsB]
   rw [decA,if_neg h0] at h ⊢
   by_cases g1:b.length < hdB (b.getD 0 0)
   · rw [if_pos g1] at h; simp at h
   rw [if_neg g1] at h ⊢
   by_cases g2:b.length < hdB (b.getD 0 0) + lenB b
   · rw [if_pos g2] at h; simp at h
   rw [if_neg g2] at h ⊢
   by_cases g3:b.getD 1 0 ≤ last
   · rw [if_pos g3] at h; simp at h
   rw [if_neg g3] at h ⊢
   by_cases g4:clrB (b.getD 0 0) ≠ flg (b.getD 1 0) ∨ (hdB (b.getD 0 0) = 4 ∧ lenB b ≤ 255) ∨ (rdA a (b.getD 1 0) ((b.drop (hdB (b.getD 0 0))).take (lenB b))).2 = false
   · rw [if_pos g4] at h; simp at h
   rw [if_neg g4] at h ⊢
   have c1:clrB (b.getD 0 0) = flg (b.getD 1 0):=Classical.byContradiction fun c=>g4 (.inl c)
   have c2:¬ (hdB (b.getD 0 0) = 4 ∧ lenB b ≤ 255):=fun c=>g4 (.inr (.inl c))
   have c3:(rdA a (b.getD 1 0) ((b.drop (hdB (b.getD 0 0))).take (lenB b))).2 = true:=by
     cases q:(rdA a (b.getD 1 0) ((b.drop (hdB (b.getD 0 0))).take (lenB b))).2 with
     | true=>rfl
     | false=>exact (g4 (.inr (.inr q))).elim
   have hh:=hdB_34 (b.getD 0 0)
   have hk:=getD_in hb 1
   have hv:=isB_take (isB_drop hb (hdB (b.getD 0 0))) (lenB b)
   have hln:lenB b ≤ 65535:=by
     unfold lenB
     rcases hh with e | e <;> rw [e]
     · have:=numAt_in hb 2 1; simp only [show 3 - 2 = 1 by rfl]; omega
     · have:=numAt_in hb 2 2; simp only [show 4 - 2 = 2 by rfl]; omega
   have hvl:((b.drop (hdB (b.getD 0 0))).take (lenB b)).length ≤ 65535:=by simp only [List.length_take]; omega
   have hhead:=head_ok hb g1 g2 c1 c2
   have ha':=rdA_ok ha hv hvl hk c3
   have hu:=rdA_unk a (b.getD 1 0) ((b.drop (hdB (b.getD 0 0))).take (lenB b))
   have hu0:=rdA_k0 a (b.getD 1 0) ((b.drop (hdB (b.getD 0 0))).take (lenB b))
   have hs:=fun hf hk1=>rdA_step (last:=last) (k:=b.getD 1 0) (s1:=s1) (s2:=s2) (s3:=s3) (a:=a) hf hv (by omega) hk1 c3
   have hdl:(b.drop (hdB (b.getD 0 0) + lenB b)).length + 3 ≤ b.length:=by simp only [List.length_drop]; omega
   have hdb:=isB_drop hb (hdB (b.getD 0 0) + lenB b)
   generalize hw:(b.drop (hdB (b.getD 0 0))).take (lenB b) = v at *
   generalize hrest:b.drop (hdB (b.getD 0 0) + lenB b) = r at *
   generalize b.getD 1 0 = k at *
   generalize rdA a k v = a' at *
   have hbad:badU a → badU a'.1:=fun ⟨t,ht,e⟩=>by
     rcases hu with q | q
     · exact ⟨t,by rw [q]; exact ht,e⟩
     · exact ⟨t,by rw [q]; exact List.mem_append_left _ ht,e⟩
   have hinv:badU a'.1 ∨ (Fresh k (s1 || decide (k = 1)) (s2 || decide (k = 2)) (s3 || decide (k = 3)) a'.1 ∧ (if 1 ≤ k ∧ k ≤ 3 then need + 1 else need) = cnt3 (s1 || decide (k = 1)) (s2 || decide (k = 2)) (s3 || decide (k = 3))):=by
     rcases hi with hi | ⟨hf,hc⟩
     · exact .inl (hbad hi)
     · by_cases hk0:k ≤ 0
       · exact .inl ⟨⟨k,v⟩,by rw [hu0 hk0]; simp,by simp only; omega⟩
       · refine .inr ⟨(hs hf (by omega)).2,?_⟩
         rw [cnt_step hf (by omega),← hc]
   obtain ⟨r1,r2,r3⟩:=ih r a'.1 k (if 1 ≤ k ∧ k ≤ 3 then need + 1 else need) (s1 || decide (k = 1)) (s2 || decide (k = 2)) (s3 || decide (k = 3)) (by omega) hdb ha' (by omega) hinv h
   refine ⟨r1,?_,?_⟩
   · have:a'.1.Unk.length ≤ a.Unk.length + 1:=by
       rcases hu with q | q <;> rw [q] <;> simp
     omega
   · rcases r3 with r3 | r3
     · exact .inl r3
     · by_cases hb0:badU (decA r a'.1 k (if 1 ≤ k ∧ k ≤ 3 then need + 1 else need)).1
       · exact .inl hb0
       refine .inr ?_
       rw [r3]
       rcases hi with hi | ⟨hf,hc⟩
       · -- what is bad stays bad
         exfalso
         exact hb0 (decA_bad r.length r a'.1 _ _ (Nat.le_refl _) (hbad hi) h)
       · by_cases hk0:k ≤ 0
         · exact (hb0 (decA_bad r.length r a'.1 _ _ (Nat.le_refl _) ⟨⟨k,v⟩,by rw [hu0 hk0]; simp,by simp only; omega⟩ h)).elim
         · rw [(hs hf (by omega)).1,List.map_append,List.flatten_append,List.append_assoc]
           congr 1
           simp only [List.map_cons,List.map_nil,List.flatten_cons,List.flatten_nil,List.append_nil]
           exact hhead.symm
end Go.Proofs.YtapgoboiljjecaaGreatDoor
