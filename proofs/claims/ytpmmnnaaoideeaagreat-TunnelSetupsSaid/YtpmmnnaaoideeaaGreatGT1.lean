/- The reference finds the least walk. No program. -/
import Derived.Test.YtpmmnnaaoideeaaGreatGTC52
import Derived.Test.YtpmmnnaaoideeaaGreatGTC41
set_option linter.unusedSimpArgs false
set_option linter.unusedVariables false
namespace Go.Proofs.YtpmmnnaaoideeaaGreat
open Go Go.Am Go.Wk
theorem ndI_inj:∀ {a b:List Nat},ndI a = ndI b → a = b
 | [],[],_=>rfl
 | [],_ :: _,h=>by simp [ndI] at h
 | _ :: _,[],h=>by simp [ndI] at h
 | x :: a,y :: b,h=>by
   unfold ndI at h
   rw [List.map_cons,List.map_cons] at h
   injection h with h1 h2
   rw [ndI_inj (a:=a) (b:=b) h2,Int.ofNat.inj h1]
theorem RW.uniq {E:List Arc} {fr n x0 h h':Nat} {w:Wlk} {ys ys':List Nat} {s s' c c':Nat} (r:RW E fr n x0 h w ys s c) (r':RW E fr n x0 h' w ys' s' c'):s = s' ∧ c = c' ∧ ys.map (· % n) = ys'.map (· % n):=by
 refine ⟨by rw [← r.code,← r'.code],by have:=r.C; have:=r'.C; omega,?_⟩
 have h1:=r.N
 rw [r'.N] at h1
 injection h1 with _ h1
 exact (ndI_inj h1).symm
theorem Kept.less' {E:List Arc} {fr n x0 t h:Nat} {S S':List Nat → Nat → Nat → Prop} {l:List Wlk} (k:Kept E fr n x0 t h S l) (hS:∀ ys s c,S' ys s c → ∃ zs,zs.map (· % n) = ys.map (· % n) ∧ S zs s c):Kept E fr n x0 t h S' l:=by
 refine ⟨k.a,fun ys s c q=>?_⟩
 obtain ⟨zs,h1,h2⟩:=hS _ _ _ q
 have:=k.b _ _ _ h2
 rw [h1] at this
 exact this
section
variable {l:List Lnk} {th:List Int} {n fr x0:Nat} {c:Con} (hls:∀ x ∈ l,okLk n x) (hth:c.Thru = th) (h0:0 < n)
def candW (th:List Int) (n:Nat) (c:Con) (x:Lnk) (ys:List Nat) (s co:Nat) (zs:List Nat) (s' d:Nat):Prop :=
 x.From = ((s % n:Nat):Int) ∧ usableN x c = true ∧ zs = ys ++ [entN th n x.To.toNat (s / n)] ∧ s' = entN th n x.To.toNat (s / n) ∧ d = co + x.Cost.toNat
include hls in
theorem usk:∀ x ∈ l.filter (fun x=>usableN x c),okLk n x:=fun x hx=>hls x (List.mem_filter.1 hx).1
include hls hth h0
theorem linkR_kept {h:Nat} {S:List Nat → Nat → Nat → Prop} {nx:List Wlk} (k:Kept (arcsN (l.filter fun x=>usableN x c) th n) fr n x0 th.length (h + 1) S nx) {w:Wlk} {ys:List Nat} {s co:Nat} (r:RW (arcsN (l.filter fun x=>usableN x c) th n) fr n x0 h w ys s co) (hs:s / n ≤ th.length) {x:Lnk} (hx:x ∈ l) :
   Kept (arcsN (l.filter fun x=>usableN x c) th n) fr n x0 th.length (h + 1) (fun zs s' d=>S zs s' d ∨ candW th n c x ys s co zs s' d) (linkR c w nx x):=by
 unfold linkR
 split
 · rename_i hc
   obtain ⟨r1,r2⟩:=r.step (usk hls) hth hs (List.mem_filter.2 ⟨hx,hc.2⟩) hc.1
   refine (k.keep h0 r1 r2).less fun zs s' d q=>?_
   rcases q with q | ⟨_,_,q3,q4,q5⟩
   · exact .inl q
   · exact .inr ⟨q3,q4,q5⟩
 · rename_i hc
   refine k.less fun zs s' d q=>?_
   rcases q with q | ⟨q1,q2,_⟩
   · exact q
   · exact absurd ⟨by rw [q1,r.L],q2⟩ hc
theorem linksR_kept {h:Nat} {w:Wlk} {ys:List Nat} {s co:Nat} (r:RW (arcsN (l.filter fun x=>usableN x c) th n) fr n x0 h w ys s co) (hs:s / n ≤ th.length):∀ {l':List Lnk},(∀ x ∈ l',x ∈ l) → ∀ {S:List Nat → Nat → Nat → Prop} {nx:List Wlk},Kept (arcsN (l.filter fun x=>usableN x c) th n) fr n x0 th.length (h + 1) S nx →
   Kept (arcsN (l.filter fun x=>usableN x c) th n) fr n x0 th.length (h + 1) (fun zs s' d=>S zs s' d ∨ ∃ x ∈ l',candW th n c x ys s co zs s' d) (linksR l' c nx w):=by
 intro l'
 induction l' with
 | nil=>intro _ S nx k; exact k.less fun zs s' d q=>q.elim id fun ⟨x,hx,_⟩=>by simp at hx
 | cons x l' ih =>
   intro hl S nx k
   refine (ih (fun y hy=>hl y (List.mem_cons_of_mem _ hy)) (linkR_kept hls hth h0 k r hs (hl x (by simp)))).less fun zs s' d q=>?_
   rcases q with q | ⟨y,hy,q⟩
   · exact .inl (.inl q)
   · rcases List.mem_cons.1 hy with rfl | hy
     · exact .inl (.inr q)
     · exact .inr ⟨y,hy,q⟩
theorem nextR_kept {h:Nat}:∀ {A:List Wlk},(∀ w ∈ A,∃ ys s co,RW (arcsN (l.filter fun x=>usableN x c) th n) fr n x0 h w ys s co ∧ s / n ≤ th.length) → ∀ {S:List Nat → Nat → Nat → Prop} {nx:List Wlk},Kept (arcsN (l.filter fun x=>usableN x c) th n) fr n x0 th.length (h + 1) S nx →
   Kept (arcsN (l.filter fun x=>usableN x c) th n) fr n x0 th.length (h + 1) (fun zs s' d=>S zs s' d ∨ ∃ w ∈ A,∃ ys s co,RW (arcsN (l.filter fun x=>usableN x c) th n) fr n x0 h w ys s co ∧ ∃ x ∈ l,candW th n c x ys s co zs s' d) (A.foldl (linksR l c) nx):=by
 intro A
 induction A with
 | nil=>intro _ S nx k; exact k.less fun zs s' d q=>q.elim id fun ⟨x,hx,_⟩=>by simp at hx
 | cons w A ih =>
   intro hA S nx k
   obtain ⟨ys,s,co,r,hs⟩:=hA w (by simp)
   refine (ih (fun y hy=>hA y (List.mem_cons_of_mem _ hy)) (linksR_kept hls hth h0 r hs (fun _ hx=>hx) k)).less' fun zs s' d q=>?_
   rcases q with q | ⟨y,hy,q⟩
   · exact ⟨zs,rfl,.inl (.inl q)⟩
   · rcases List.mem_cons.1 hy with rfl | hy
     · obtain ⟨ys',s2,co',r',x,hx,q1,q2,q3,q4,q5⟩:=q
       obtain ⟨rfl,rfl,e⟩:=r.uniq r'
       refine ⟨ys ++ [entN th n x.To.toNat (s / n)],?_,.inl (.inr ⟨x,hx,q1,q2,rfl,q4,q5⟩)⟩
       rw [q3,List.map_append,List.map_append,e]
     · exact ⟨zs,rfl,.inr ⟨y,hy,q⟩⟩
theorem next_kept {h:Nat} {A:List Wlk} (k:Kept (arcsN (l.filter fun x=>usableN x c) th n) fr n x0 th.length h (fun ys s d=>W (arcsN (l.filter fun x=>usableN x c) th n) x0 ys d s ∧ ys.length = h) A) :
   Kept (arcsN (l.filter fun x=>usableN x c) th n) fr n x0 th.length (h + 1) (fun ys s d=>W (arcsN (l.filter fun x=>usableN x c) th n) x0 ys d s ∧ ys.length = h + 1) (nextR l c A):=by
 have hn:=nextR_kept hls hth h0 (fr:=fr) (x0:=x0) (h:=h) (A:=A) k.a (S:=fun _ _ _=>False) (nx:=[]) ⟨fun w hw=>by simp at hw,fun _ _ _ q=>q.elim⟩
 refine ⟨hn.a,?_⟩
 rintro zs s d ⟨hw,hl⟩
 obtain ⟨zs0,y,rfl⟩:∃ zs0 y,zs = zs0 ++ [y]:=⟨zs.dropLast,zs.getLast (by intro e; rw [e] at hl; simp at hl),(List.dropLast_concat_getLast _).symm⟩
 obtain ⟨rfl,s0,d0,a,w1,w2,rfl⟩:=hw.snoc_inv
 simp at hl
 obtain ⟨w,hwA,ys',c',r,hr⟩:=k.b _ _ _ ⟨w1,hl⟩
 obtain ⟨_,x,x1,x2,x3,x4,x5,x6,x7⟩:=arc_inv (usk hls) w2
 obtain ⟨xm,xu⟩:=List.mem_filter.1 x1
 obtain ⟨w',hw',ys2,c2,r2,hr2⟩:=hn.b (ys' ++ [y]) y (c' + a) (.inr ⟨w,hwA,ys',s0,c',r,x,xm,x5,xu,by rw [x3],x3,by omega⟩)
 refine ⟨w',hw',ys2,c2,r2,?_⟩
 have hlen:(ys'.map (· % n)).length = (zs0.map (· % n)).length:=by simp [r.len,hl]
 have hlx:=fun a b:Nat=>lexlt_snoc (a:=ys'.map (· % n)) (b:=zs0.map (· % n)) a b hlen
 have key:c' = d0 → c2 = c' + a → ¬ lexlt ((zs0 ++ [y]).map (· % n)) (ys2.map (· % n)):=by
   rintro rfl rfl hc
   rcases hr with hr | ⟨_,hr⟩
   · omega
   rcases hr2 with hr2 | ⟨_,hr2⟩
   · omega
   rcases lexlt_tri (ys'.map (· % n)) (zs0.map (· % n)) with h1 | h1 | h1
   · apply hr2
     refine lexlt_trans ?_ hc
     simp only [List.map_append,List.map_cons,List.map_nil]
     exact (hlx _ _).2 (.inl h1)
   · apply hr2
     simp only [List.map_append,List.map_cons,List.map_nil] at hc ⊢
     rw [h1]
     exact hc
   · exact hr h1
 have b1:c' ≤ d0:=by omega
 have b2:c2 ≤ c' + a:=by omega
 rcases Nat.lt_or_ge c2 (d0 + a) with h1 | h1
 · exact .inl h1
 · exact .inr ⟨by omega,key (by omega) (by omega)⟩
end
def BestLt (E:List Arc) (fr n x0 z h:Nat):Option Wlk → Prop
 | none=>∀ ys d,W E x0 ys d z → h ≤ ys.length
 | some w=>∃ ys c,RW E fr n x0 ys.length w ys z c ∧ ys.length < h ∧ ∀ zs d,W E x0 zs d z → zs.length < h → c < d ∨ c = d ∧ (ys.length < zs.length ∨ ys.length = zs.length ∧ ¬ lexlt (zs.map (· % n)) (ys.map (· % n)))
theorem nodup_inj {α:Type} {f:α → Nat}:∀ {A:List α},(A.map f).Nodup → ∀ {a b:α},a ∈ A → b ∈ A → f a = f b → a = b:=by
 intro A
 induction A with
 | nil=>intro _ a b h; simp at h
 | cons x A ih =>
   intro hd a b ha hb e
   rw [List.map_cons,List.nodup_cons] at hd
   rcases List.mem_cons.1 ha with h1 | h1 <;> rcases List.mem_cons.1 hb with h2 | h2
   · rw [h1,h2]
   · exact absurd (List.mem_map.2 ⟨b,h2,by rw [← e,h1]⟩) hd.1
   · exact absurd (List.mem_map.2 ⟨a,h1,by rw [e,h2]⟩) hd.1
   · exact ih hd.2 h1 h2 e
theorem bestR_no {to:Int} {t:Nat}:∀ {A:List Wlk} {b:Option Wlk},(∀ w ∈ A,¬ (lastW w = to ∧ w.D = t)) → bestR to t b A = b:=by
 intro A
 induction A with
 | nil=>intro b _; rfl
 | cons w A ih =>
   intro b h
   unfold bestR at ih ⊢
   rw [List.foldl_cons]
   have:bestS to t b w = b:=by
     unfold bestS
     rw [if_neg]
     rintro ⟨h1,h2,_⟩
     exact h w (by simp) ⟨h1,h2⟩
   rw [this]
   exact ih fun y hy=>h y (List.mem_cons_of_mem _ hy)
theorem bestR_one {n:Nat} {to:Int} {t:Nat}:∀ {A:List Wlk} {b:Option Wlk},(A.map (codeW n)).Nodup → ∀ w ∈ A,lastW w = to → w.D = t → bestR to t b A = if lessB b w = true then some w else b:=by
 intro A
 induction A with
 | nil=>intro b _ w hw; simp at hw
 | cons x A ih =>
   intro b hd w hw h1 h2
   rw [List.map_cons,List.nodup_cons] at hd
   rcases List.mem_cons.1 hw with rfl | hw
   · have hno:bestR to t (bestS to t b w) A = bestS to t b w:=bestR_no fun y hy ⟨e1,e2⟩=>hd.1 (List.mem_map.2 ⟨y,hy,by unfold codeW; rw [e1,e2,h1,h2]⟩)
     show bestR to t (bestS to t b w) A = _
     rw [hno]
     unfold bestS
     by_cases hl:lessB b w = true
     · rw [if_pos ⟨h1,h2,hl⟩,if_pos hl]
     · rw [if_neg (fun q=>hl q.2.2),if_neg hl]
   · show bestR to t (bestS to t b x) A = _
     rw [ih hd.2 w hw h1 h2]
     have:bestS to t b x = b:=by
       unfold bestS
       rw [if_neg]
       rintro ⟨e1,e2,_⟩
       exact hd.1 (List.mem_map.2 ⟨w,hw,by unfold codeW; rw [e1,e2,h1,h2]⟩)
     rw [this]
theorem BestLt.step {E:List Arc} {fr n x0 to t h:Nat} (h0:0 < n) (hto:to < n) {b:Option Wlk} (hb:BestLt E fr n x0 (t * n + to) h b) {A:List Wlk} (k:Kept E fr n x0 t h (fun ys s d=>W E x0 ys d s ∧ ys.length = h) A) (hd:(A.map (codeW n)).Nodup):BestLt E fr n x0 (t * n + to) (h + 1) (bestR (to:Int) t b A):=by
 have zd:(t * n + to) / n = t:=by rw [Nat.mul_comm,Nat.mul_add_div h0,Nat.div_eq_of_lt hto]; rfl
 have zm:(t * n + to) % n = to:=by rw [Nat.mul_comm,Nat.mul_add_mod,Nat.mod_eq_of_lt hto]
 by_cases hw:∃ w ∈ A,codeW n w = t * n + to
 · obtain ⟨w,hwA,hc⟩:=hw
   obtain ⟨ys,s,c,r,_⟩:=k.a w hwA
   have hs:s = t * n + to:=by rw [← r.code,hc]
   subst hs
   rw [bestR_one hd w hwA (by rw [r.L,zm]) (by rw [r.D,zd])]
   have hmin:∀ zs d,W E x0 zs d (t * n + to) → zs.length = h → c < d ∨ c = d ∧ ¬ lexlt (zs.map (· % n)) (ys.map (· % n)):=by
     intro zs d h1 h2
     obtain ⟨w',hw',ys',c',r',hr'⟩:=k.b _ _ _ ⟨h1,h2⟩
     have:w = w':=by
       exact nodup_inj hd hwA hw' (by rw [r.code,r'.code])
     subst this
     obtain ⟨_,rfl,e⟩:=r.uniq r'
     rw [e]
     exact hr'
   have rl:=r.len
   rw [← rl] at r
   by_cases hl:lessB b w = true
   · rw [if_pos hl]
     refine ⟨ys,c,r,by omega,fun zs d h1 h2=>?_⟩
     by_cases e:zs.length = h
     · have:=hmin zs d h1 e
       rcases this with h3 | ⟨h3,h4⟩
       · exact .inl h3
       · exact .inr ⟨h3,.inr ⟨by omega,h4⟩⟩
     · cases b with
       | none=>have:=hb zs d h1; omega
       | some q =>
         obtain ⟨us,cq,rq,h3,h4⟩:=hb
         unfold lessB at hl
         simp only [decide_eq_true_eq] at hl
         rw [r.C,rq.C] at hl
         have:=h4 zs d h1 (by omega)
         omega
   · rw [if_neg hl]
     cases b with
     | none=>exact absurd rfl hl
     | some q =>
       obtain ⟨us,cq,rq,h3,h4⟩:=hb
       unfold lessB at hl
       simp only [decide_eq_true_eq] at hl
       rw [r.C,rq.C] at hl
       refine ⟨us,cq,rq,by omega,fun zs d h1 h2=>?_⟩
       by_cases e:zs.length = h
       · have:=hmin zs d h1 e
         omega
       · exact h4 zs d h1 (by omega)
 · have hnw:∀ zs d,W E x0 zs d (t * n + to) → zs.length ≠ h:=by
     intro zs d h1 h2
     obtain ⟨w',hw',ys',c',r',_⟩:=k.b _ _ _ ⟨h1,h2⟩
     exact hw ⟨w',hw',r'.code⟩
   rw [bestR_no (fun w hwA ⟨e1,e2⟩=>hw ⟨w,hwA,by unfold codeW; rw [e1,e2]; simp⟩)]
   cases b with
   | none =>
     intro ys d h1
     have:=hb ys d h1
     have:=hnw ys d h1
     omega
   | some q =>
     obtain ⟨us,cq,rq,h3,h4⟩:=hb
     exact ⟨us,cq,rq,by omega,fun zs d h1 h2=>h4 zs d h1 (by have:=hnw zs d h1; omega)⟩
theorem loopR_best {l:List Lnk} {n fr x0 to:Nat} {c:Con} (hls:∀ x ∈ l,okLk n x) (h0:0 < n) (hto:to < n) (sz:Nat) (b0:Option Wlk) (A0:List Wlk):∀ (f h:Nat) (A:List Wlk) (b:Option Wlk),f + h = sz + 1 → h ≤ sz → (∀ j,j < h → j < sz ∧ limH c.Hops j) →
   Kept (arcsN (l.filter fun x=>usableN x c) c.Thru n) fr n x0 c.Thru.length h (fun ys s d=>W (arcsN (l.filter fun x=>usableN x c) c.Thru n) x0 ys d s ∧ ys.length = h) A → okNx n c.Thru.length h A → BestLt (arcsN (l.filter fun x=>usableN x c) c.Thru n) fr n x0 (c.Thru.length * n + to) h b →
   match loopR l c (to:Int) sz f h A b with
   | none=>∀ ys d,W (arcsN (l.filter fun x=>usableN x c) c.Thru n) x0 ys d (c.Thru.length * n + to) → ¬ (ys.length < sz ∧ limH c.Hops ys.length)
   | some w=>∃ ys co,RW (arcsN (l.filter fun x=>usableN x c) c.Thru n) fr n x0 ys.length w ys (c.Thru.length * n + to) co ∧ Best (arcsN (l.filter fun x=>usableN x c) c.Thru n) (· % n) (fun k=>k < sz ∧ limH c.Hops k) x0 (c.Thru.length * n + to) ys co:=by
 have fin:∀ (h:Nat) (b:Option Wlk),(∀ j,j < h → j < sz ∧ limH c.Hops j) → BestLt (arcsN (l.filter fun x=>usableN x c) c.Thru n) fr n x0 (c.Thru.length * n + to) h b → (∀ ys d,W (arcsN (l.filter fun x=>usableN x c) c.Thru n) x0 ys d (c.Thru.length * n + to) → (ys.length < sz ∧ limH c.Hops ys.length) → ys.length < h) →
   match b with
   | none=>∀ ys d,W (arcsN (l.filter fun x=>usableN x c) c.Thru n) x0 ys d (c.Thru.length * n + to) → ¬ (ys.length < sz ∧ limH c.Hops ys.length)
   | some w=>∃ ys co,RW (arcsN (l.filter fun x=>usableN x c) c.Thru n) fr n x0 ys.length w ys (c.Thru.length * n + to) co ∧ Best (arcsN (l.filter fun x=>usableN x c) c.Thru n) (· % n) (fun k=>k < sz ∧ limH c.Hops k) x0 (c.Thru.length * n + to) ys co:=by
   intro h b hj hb hl
   cases b with
   | none =>
     intro ys d hw hlm
     have:=hb ys d hw
     have:=hl ys d hw hlm
     omega
   | some w =>
     obtain ⟨ys,co,r,h1,h2⟩:=hb
     exact ⟨ys,co,r,r.wk,hj _ h1,fun zs d hw hlm=>h2 zs d hw (hl zs d hw hlm)⟩
 intro f
 induction f with
 | zero=>intro h A b h1 h2; omega
 | succ f ih =>
   intro h A b h1 h2 hj k ok hb
   simp only [loopR]
   by_cases hc:A ≠ [] ∧ h < sz ∧ (c.Hops = 0 ∨ (h:Int) ≤ c.Hops)
   · rw [if_pos hc]
     refine ih (h + 1) _ _ (by omega) (by omega) (fun j hj'=>?_) (next_kept hls rfl h0 k) (nextR_ok rfl hls ok.w) (hb.step h0 hto k ok.nd)
     by_cases e:j = h
     · subst e; exact ⟨hc.2.1,hc.2.2⟩
     · exact hj j (by omega)
   · rw [if_neg hc]
     refine fin h b hj hb fun ys d hw hlm=>?_
     rcases Nat.lt_or_ge ys.length h with h3 | h3
     · exact h3
     · by_cases hA:A = []
       · obtain ⟨y,a,b',w1,w2,_⟩:=(show W (arcsN (l.filter fun x=>usableN x c) c.Thru n) x0 (ys.take h ++ ys.drop h) d _ by rw [List.take_append_drop]; exact hw).split
         obtain ⟨w,hwA,_⟩:=k.b _ _ _ ⟨w1,by simp; omega⟩
         rw [hA] at hwA
         simp at hwA
       · exfalso
         apply hc
         refine ⟨hA,by omega,limH_mono _ _ _ h3 hlm.2⟩
end Go.Proofs.YtpmmnnaaoideeaaGreat

/- The reference's Route, by the program. -/
namespace Go.Proofs.YtpmmnnaaoideeaaGreat
open Go Go.Am Go.Wk
def bC:Option Wlk → List AVal
 | none=>[.sl 1 [] .sh,.int .i64 0,.int .i64 0]
 | some w=>ceW w
theorem firstW_ok {n:Nat} {fr:Int} (h0:0 ≤ fr) (h1:fr < n) (c:Con):okW n c.Thru.length 0 (firstW fr c):=by
 refine ⟨rfl,by simpa [lastW,firstW] using h0,by simpa [lastW,firstW] using h1,by simp [firstW],by simp [firstW],?_⟩
 simp only [firstW]
 split
 · rename_i e
   have:=(List.getElem?_eq_some_iff.1 e).1
   omega
 · omega
def firstLoop:Code → Option Code
 | .loop c=>some c
 | .seq a b=>(firstLoop a).orElse fun _=>firstLoop b
 | .block _ c=>firstLoop c
 | .cond _ a b=>(firstLoop a).orElse fun _=>firstLoop b
 | .scope c=>firstLoop c
 | _=>none
def loopIn (c:Code):Code:=(firstLoop c).getD .skip
structure OS where
  h:Nat
  A:List Wlk
  b:Option Wlk
structure LS where
  i:Nat
  nx:List Wlk
  loc:Nat
theorem loopR_stop {l:List Lnk} {c:Con} {to:Int} {sz h:Nat} {A:List Wlk} {b:Option Wlk} (hc:¬ (A ≠ [] ∧ h < sz ∧ (c.Hops = 0 ∨ (h:Int) ≤ c.Hops))):∀ f,loopR l c to sz f h A b = b
 | 0=>rfl
 | f + 1=>by simp only [loopR]; rw [if_neg hc]
theorem loopR_go {l:List Lnk} {c:Con} {to:Int} {sz h:Nat} {A:List Wlk} {b:Option Wlk} (hc:A ≠ [] ∧ h < sz ∧ (c.Hops = 0 ∨ (h:Int) ≤ c.Hops)):loopR l c to sz (sz + 1 - h) h A b = loopR l c to sz (sz + 1 - (h + 1)) (h + 1) (nextR l c A) (bestR to c.Thru.length b A):=by
 obtain ⟨f,hf⟩:∃ f,sz + 1 - h = f + 1:=⟨sz - h,by omega⟩
 rw [hf,show sz + 1 - (h + 1) = f by omega]
 simp only [loopR]
 rw [if_pos hc]
theorem bC_le (m:Nat) (b:Option Wlk):LeCells m (bC b) (bC b):=by cases b <;> simp [bC,ceW,LeCells]
def nxV (nx:List Wlk):Nat → AVal
 | 0=>.sl 0 [] .full
 | 1=>.osl 4 0 nx.length none 3
 | _=>.osl 3 0 nx.length none 3
def HL (c:Con) (b:Option Wlk) (w:Wlk) (nx:List Wlk):Nat → List (List AVal)
 | 0=>[cellsC c,[],bC b,ceW w]
 | 1=>[cellsC c,[],bC b,ceW w,rowC ceW nx]
 | _=>[cellsC c,[],bC b,rowC ceW nx,ceW w]
def slL (l:List Lnk) (N:Nat) (to:Int) (b:Option Wlk) (h:Nat) (A:List Wlk) (j:Nat) (nx:List Wlk) (loc:Nat):List (Nat × AVal) :=
 [(0,.int .i64 N),(1,.sl 13 (l.map encL) .sh),(3,.int .i64 to),(9,.ptr 0 0),(16,.ptr 2 0),(17,.bool b.isSome),(18,.int .i64 h),(19,nxV nx loc),(96,.sl 3 (A.map encW) .sh),(97,.int .i64 A.length),(98,.int .i64 j)]
def holds (t:Nat → AVal) (L:List (Nat × AVal)):Prop:=∀ p ∈ L,t p.1 = p.2
theorem bC_tree (b:Option Wlk):(bC b).all AVal.tree = true:=by cases b <;> rfl
theorem treeCS {σ:Nat → Nat} {N n:Nat} {cs:List AVal} (h:cs.all AVal.tree = true):LeCellsS σ N n cs cs:=treeCellsS h
end Go.Proofs.YtpmmnnaaoideeaaGreat

/- The program and the reference find the same route. No program. -/
namespace Go.Proofs.YtpmmnnaaoideeaaGreat
open Go Go.Am Go.Wk
theorem out_false {N:Nat} {x:Int} (h:outN N x = false):x = (x.toNat:Int) ∧ x.toNat < N:=by
 simp only [outN,Bool.or_eq_false_iff,decide_eq_false_iff_not] at h
 omega
theorem first_kept {l:List Lnk} {n fr:Nat} {c:Con} (hf:fr < n):Kept (arcsN (l.filter fun x=>usableN x c) c.Thru n) fr n (entN c.Thru n fr 0) c.Thru.length 0 (fun ys s d=>W (arcsN (l.filter fun x=>usableN x c) c.Thru n) (entN c.Thru n fr 0) ys d s ∧ ys.length = 0) [firstW (fr:Int) c]:=by
 have e1:=ent_div (th:=c.Thru) (k:=0) hf
 have e2:=ent_mod (th:=c.Thru) (k:=0) hf
 have r:RW (arcsN (l.filter fun x=>usableN x c) c.Thru n) fr n (entN c.Thru n fr 0) 0 (firstW (fr:Int) c) [] (entN c.Thru n fr 0) 0:=by
   refine ⟨.nil _,rfl,rfl,rfl,?_,?_⟩
   · rw [e1]; rfl
   · rw [e2]; rfl
 refine ⟨fun w hw=>?_,?_⟩
 · rw [List.mem_singleton] at hw
   subst hw
   exact ⟨_,_,_,r,by rw [e1]; exact entK_len (Nat.zero_le _)⟩
 · rintro ys s d ⟨hw,hl⟩
   have:ys = []:=List.length_eq_zero_iff.1 hl
   subst this
   obtain ⟨rfl,rfl⟩:=hw.nil_inv
   exact ⟨_,by simp,[],0,r,.inr ⟨rfl,by simp [lexlt]⟩⟩
theorem walk_ref {l:List Lnk} {n fr to:Nat} {c:Con} (hls:∀ x ∈ l,okLk n x) (hs:l.Pairwise fun x y=>x.From < y.From ∨ x.From = y.From ∧ x.To < y.To) (h0:0 < n) (hto:to < n) (hf:fr < n) (hm0:0 ≤ c.Hops) :
   walkN (l.filter fun x=>usableN x c) c.Thru n to fr c.Hops = (loopR l c (to:Int) (n * (c.Thru.length + 1)) (n * (c.Thru.length + 1) + 1) 0 [firstW (fr:Int) c] none).map fun w=>(w.N,w.C):=by
 have hus:=usk hls (c:=c)
 have hE1:∀ a ∈ arcsN (l.filter fun x=>usableN x c) c.Thru n,1 ≤ a.2.2:=fun a ha=>(arcs_bound hus ha).2.2.1
 have hE2:∀ a ∈ arcsN (l.filter fun x=>usableN x c) c.Thru n,a.2.1 < n * (c.Thru.length + 1):=fun a ha=>(arcs_bound hus ha).2.1
 have hx0s:entN c.Thru n fr 0 < n * (c.Thru.length + 1):=by
   unfold entN
   have:=entK_len (th:=c.Thru) (a:=fr) (k:=0) (by omega)
   have e2:(entK c.Thru fr 0 + 1) * n ≤ (c.Thru.length + 1) * n:=Nat.mul_le_mul_right n (by omega)
   rw [Nat.succ_mul] at e2
   rw [Nat.mul_comm n]
   omega
 have h1:=walkN_best (ls:=l.filter fun x=>usableN x c) (th:=c.Thru) (n:=n) (t:=to) (from_:=fr) (most:=c.Hops) h0 hus (hs.filter _) hf hm0
 have h2:=loopR_best (l:=l) (n:=n) (fr:=fr) (x0:=entN c.Thru n fr 0) (to:=to) (c:=c) hls h0 hto (n * (c.Thru.length + 1)) none [] (n * (c.Thru.length + 1) + 1) 0 [firstW (fr:Int) c] none rfl (Nat.zero_le _) (fun j hj=>by omega) (first_kept hf) ⟨fun w hw=>by
   rw [List.mem_singleton] at hw
   subst hw
   exact firstW_ok (by omega) (by omega) c,by simp⟩ (fun ys d _=>Nat.zero_le _)
 generalize walkN (l.filter fun x=>usableN x c) c.Thru n to fr c.Hops = X at *
 generalize loopR l c (to:Int) (n * (c.Thru.length + 1)) (n * (c.Thru.length + 1) + 1) 0 [firstW (fr:Int) c] none = Y at *
 cases X with
 | none =>
   cases Y with
   | none=>rfl
   | some w =>
     obtain ⟨ys,co,_,hb⟩:=h2
     exact absurd hb.l.2 (h1 _ _ hb.w)
 | some p =>
   obtain ⟨ys,co,hb,e1,e2⟩:=h1
   cases Y with
   | none =>
     exfalso
     rcases hb.w.short hE1 hE2 hx0s with h3 | ⟨zs,d,k1,k2,k3,k4⟩
     · exact h2 _ _ hb.w ⟨h3,hb.l⟩
     · exact h2 _ _ k1 ⟨k4,limH_mono _ _ _ k3 hb.l⟩
   | some w =>
     obtain ⟨zs,d,r,hb'⟩:=h2
     obtain ⟨k1,k2⟩:=hb.uniq (hb'.of_short hE1 hE2 (limH_mono _) hx0s)
     obtain ⟨p1,p2⟩:=p
     simp only at e1 e2
     rw [Option.map_some,r.N,r.C,e1,e2,k2]
     congr 2
     have k3:=congrArg ndI k1
     rw [← k3]
     simp [ndI]
theorem routeN_ref (n:Int) (l:List Lnk) (fr to:Int) (c:Con):routeN n l fr to c = refN n l fr to c:=by
 unfold routeN refN
 by_cases g1:checkE n l c = 0
 case neg=>rw [if_pos g1,if_pos g1]
 have g1':¬ checkE n l c ≠ 0:=fun h=>h g1
 rw [if_neg g1',if_neg g1']
 by_cases g2:(outN n fr || outN n to) = true
 · rw [if_pos g2,if_pos g2]
 rw [if_neg g2,if_neg g2]
 by_cases g3:hasB c.Avoid fr = true
 · rw [if_pos g3,if_pos g3]
   simp [loopR]
 rw [if_neg g3,if_neg g3]
 obtain ⟨n1,n2,l2,lk,cn⟩:=check_links g1
 obtain ⟨asc,_,lko⟩:=links_asc lk
 obtain ⟨c1,c2,c3,_⟩:=con_ok cn
 obtain ⟨N,hN⟩:∃ N:Nat,n = N:=⟨n.toNat,by omega⟩
 subst hN
 simp only [Bool.or_eq_true,not_or,Bool.not_eq_true] at g2
 obtain ⟨f1,f2⟩:=out_false g2.1
 obtain ⟨t1,t2⟩:=out_false g2.2
 have h:=walk_ref (l:=l) (n:=N) (fr:=fr.toNat) (to:=to.toNat) (c:=c) (fun x hx=>(link_ok (lko x hx)).1) asc (by omega) t2 f2 c1
 rw [← f1,← t1] at h
 rw [Int.toNat_natCast,h]
 generalize loopR l c to (N * (c.Thru.length + 1)) (N * (c.Thru.length + 1) + 1) 0 [firstW fr c] none = Y
 cases Y <;> rfl
end Go.Proofs.YtpmmnnaaoideeaaGreat

/- The routes that are found: what they are. No program. -/
namespace Go.Proofs.YtpmmnnaaoideeaaGreat
open Go Go.Am Go.Wk
theorem repI_iff (l:List Int):∀ k,k ≤ l.length → (repI l l.length k = true ↔ ∃ i,l.length - k ≤ i ∧ i < l.length ∧ l.getD i 0 ∈ l.take i):=by
 intro k
 induction k with
 | zero =>
   intro _
   simp only [repI]
   constructor
   · intro h; cases h
   · rintro ⟨i,h1,h2,_⟩; omega
 | succ k ih =>
   intro hk
   have ih:=ih (by omega)
   simp only [repI]
   by_cases h:hasB (l.take (l.length - (k + 1))) (l.getD (l.length - (k + 1)) 0) = true
   · rw [if_pos h]
     rw [hasB_iff] at h
     exact ⟨fun _=>⟨_,Nat.le_refl _,by omega,h⟩,fun _=>rfl⟩
   · rw [if_neg h,ih]
     rw [hasB_iff] at h
     constructor
     · rintro ⟨i,h1,h2,h3⟩; exact ⟨i,by omega,h2,h3⟩
     · rintro ⟨i,h1,h2,h3⟩
       refine ⟨i,?_,h2,h3⟩
       by_cases e:i = l.length - (k + 1)
       · subst e; exact absurd h3 h
       · omega
theorem repB_iff (l:List Int):repB l = true ↔ ¬ l.Nodup:=by
 unfold repB
 rw [repI_iff l _ (Nat.le_refl _),Nat.sub_self]
 unfold List.Nodup
 rw [List.pairwise_iff_getElem]
 constructor
 · rintro ⟨i,_,h2,h3⟩ h
   obtain ⟨j,hj,he⟩:=List.getElem_of_mem h3
   simp only [List.length_take] at hj
   have:=h j i (by omega) h2 (by omega)
   rw [List.getElem_take] at he
   rw [he,List.getD_eq_getElem?_getD,List.getElem?_eq_getElem h2] at this
   exact this rfl
 · intro h
   simp only [ne_eq,Classical.not_forall,Decidable.not_not] at h
   obtain ⟨i,j,h0,h2,h1,h3⟩:=h
   refine ⟨j,Nat.zero_le _,h2,?_⟩
   rw [List.mem_iff_getElem?]
   refine ⟨i,?_⟩
   rw [List.getElem?_take_of_lt h1,List.getElem?_eq_getElem h0,h3,List.getD_eq_getElem?_getD,List.getElem?_eq_getElem h2]
   rfl
def usL (l:List Lnk) (c:Con):List Lnk:=l.filter fun x=>usableN x c
def stF (n:Nat) (fr:Int) (c:Con):Nat:=entN c.Thru n fr.toNat 0
def stT (n:Nat) (to:Int) (c:Con):Nat:=c.Thru.length * n + to.toNat
def ndS (n:Nat) (fr:Int) (ys:List Nat):List Int:=fr :: ys.map (fun s=>((s % n:Nat):Int))
theorem routeN_cases {N:Nat} {l:List Lnk} {fr to:Int} {c:Con} (g1:checkE N l c = 0) (h1:outN N fr = false) (h2:outN N to = false) (h3:hasB c.Avoid fr = false) :
   (routeN N l fr to c = ([],0,20) ∧ ∀ ys d,W (arcsN (usL l c) c.Thru N) (stF N fr c) ys d (stT N to c) → ¬ limH c.Hops ys.length) ∨
   ∃ ys d,Best (arcsN (usL l c) c.Thru N) (· % N) (limH c.Hops) (stF N fr c) (stT N to c) ys d ∧ routeN N l fr to c = if repB (ndS N fr ys) = true then ([],0,10) else (ndS N fr ys,(d:Int),0):=by
 obtain ⟨n1,n2,l2,lk,cn⟩:=check_links g1
 obtain ⟨asc,_,lko⟩:=links_asc lk
 obtain ⟨c1,c2,c3,_⟩:=con_ok cn
 obtain ⟨f1,f2⟩:=out_false h1
 have hls:∀ x ∈ l,okLk N x:=fun x hx=>(link_ok (lko x hx)).1
 have hw:=walkN_best (ls:=usL l c) (th:=c.Thru) (n:=N) (t:=to.toNat) (from_:=fr.toNat) (most:=c.Hops) (by omega) (usk hls) (asc.filter _) f2 c1
 unfold routeN
 rw [if_neg (by simpa using g1),if_neg (by simp [h1,h2]),if_neg (by simp [h3]),Int.toNat_natCast]
 rw [show (l.filter fun x=>usableN x c) = usL l c from rfl]
 generalize walkN (usL l c) c.Thru N to.toNat fr.toNat c.Hops = R at *
 cases R with
 | none=>exact .inl ⟨rfl,hw⟩
 | some p =>
   obtain ⟨ys,d,hb,e1,e2⟩:=hw
   refine .inr ⟨ys,d,hb,?_⟩
   rw [← f1] at e1
   simp only [e1,e2]
   rfl
end Go.Proofs.YtpmmnnaaoideeaaGreat

/- Paths that fit are walks of states, and the other way round. No program. -/
namespace Go.Proofs.YtpmmnnaaoideeaaGreat
open Go Go.Am Go.Wk
def costN (l:List Lnk):Int → List Int → Int
 | _,[]=>0
 | a,x :: xs=>(findL l a x).1.Cost + costN l x xs
def endN:Int → List Int → Int
 | a,[]=>a
 | _,x :: xs=>endN x xs
theorem endN_last:∀ (a:Int) (xs:List Int),(a :: xs)[xs.length]? = some (endN a xs)
 | a,[]=>rfl
 | a,x :: xs=>by simpa [endN] using endN_last x xs
theorem findL_of {l:List Lnk} (hs:l.Pairwise fun x y=>x.From < y.From ∨ x.From = y.From ∧ x.To < y.To) {x:Lnk} (hx:x ∈ l):findL l x.From x.To = (x,true):=by
 unfold findL
 cases hf:l.find? (isL x.From x.To) with
 | none=>exact absurd (List.find?_eq_none.1 hf x hx) (by simp [isL])
 | some z =>
   have hz:=List.find?_some hf
   simp only [isL,Bool.and_eq_true,decide_eq_true_eq] at hz
   have:=find_least hs hf x hx (by simp [isL])
   rcases this with rfl | h1
   · rfl
   · omega
section
variable {l:List Lnk} {M:Nat} {c:Con} (hls:∀ x ∈ l,okLk M x) (hs:l.Pairwise fun x y=>x.From < y.From ∨ x.From = y.From ∧ x.To < y.To)
include hls
include hs
theorem walk_goR {s z d:Nat} {ys:List Nat} (h:W (arcsN (usL l c) c.Thru M) s ys d z) (hz:z / M = c.Thru.length):goR l c (some ((s % M:Nat):Int)) (s / M) (ndI (ys.map (· % M))) = true ∧ (d:Int) = costN l ((s % M:Nat):Int) (ndI (ys.map (· % M))) ∧ ((z % M:Nat):Int) = endN ((s % M:Nat):Int) (ndI (ys.map (· % M))):=by
 induction h with
 | nil x=>exact ⟨by simp [ndI,goR,hz],rfl,rfl⟩
 | @cons x y z' a ys' d' he hw ih =>
   obtain ⟨i1,i2,i3⟩:=ih hz
   have hus:=usk hls (c:=c)
   obtain ⟨hk,lk,q1,q2,q3,q4,q5,q6,q7⟩:=arc_inv (ls:=usL l c) hus he
   obtain ⟨m1,m2⟩:=List.mem_filter.1 q1
   have hf:=findL_of hs m1
   rw [q5,q6] at hf
   have hto:lk.To.toNat = y % M:=by omega
   have ey:=ent_div (th:=c.Thru) (k:=x / M) q7
   rw [← q3] at ey
   have e4:(if c.Thru[x / M]? = some ((y % M:Nat):Int) then x / M + 1 else x / M) = y / M:=by
     rw [ey]; unfold entK; rw [hto]
   have hav:hasB c.Avoid ((y % M:Nat):Int) = false:=by
     rw [← q6]
     have hst:¬ (c.Setup < 0 ∨ 7 < c.Setup):=fun q=>by rw [usable_1 q] at m2; cases m2
     obtain ⟨i,hi⟩:∃ i:Nat,c.Setup = i:=⟨c.Setup.toNat,by omega⟩
     have hi8:i < 8:=by omega
     have hbd:¬ lk.Fr i < c.Band:=fun q=>by rw [usable_2 hi hi8 q] at m2; cases m2
     rw [usable_3 hi hi8 hbd] at m2
     split at m2
     · cases m2
     · split at m2
       · cases m2
       · simp only [Bool.and_eq_true,Bool.not_eq_true'] at m2
         exact m2.2
   simp only [ndI,List.map_cons] at i1 i2 i3 ⊢
   refine ⟨?_,?_,?_⟩
   · simp only [goR,hav,hf,m2,e4]
     simpa using i1
   · simp only [costN,hf]
     rw [← i2,← q4]
     push_cast
     rfl
   · simp only [endN]
     exact i3
end
end Go.Proofs.YtpmmnnaaoideeaaGreat

/- Tunnels; the links that a path uses. -/
namespace Go.Proofs.YtpmmnnaaoideeaaGreat
open Go Go.Am Go.Wk
structure Tun where
  ID:Int
  From:Int
  To:Int
  W:Con
  P:List Int
@[simp] def cellsT (t:Tun):List AVal:=[.int .i64 t.ID,.int .i64 t.From,.int .i64 t.To,.int .i64 t.W.Band,.int .i64 t.W.Setup,.int .i64 t.W.Hold,.int .u32 t.W.Incl,.int .u32 t.W.Excl,.int .i64 t.W.Hops,.sl 1 (t.W.Avoid.map encI) .sh,.sl 1 (t.W.Thru.map encI) .sh,.sl 1 (t.P.map encI) .sh]
@[simp] def encT (t:Tun):AVal:=.agg (cellsT t)
theorem encT_enc:Enc cellsT 12:=⟨by decide,fun _=>rfl,fun _=>rfl,fun _=>rfl⟩
def findI (l:List Lnk) (a b:Int):Int:=idxL (isL a b) l 0
def usesL (l:List Lnk):List Int → List Int
 | []=>[]
 | [_]=>[]
 | a :: b :: p=>findI l a b :: usesL l (b :: p)
theorem usesL_drop {l:List Lnk} {p:List Int} {i:Nat} {x y:Int} (hx:p[i]? = some x) (hy:p[i + 1]? = some y):usesL l (p.drop i) = findI l x y :: usesL l (p.drop (i + 1)):=by
 obtain ⟨k1,k2⟩:=List.getElem?_eq_some_iff.1 hx
 obtain ⟨k3,k4⟩:=List.getElem?_eq_some_iff.1 hy
 rw [List.drop_eq_getElem_cons k1,k2,List.drop_eq_getElem_cons k3,k4,usesL]
theorem usesL_short {l:List Lnk} {p:List Int} (h:p.length ≤ 1):usesL l p = []:=by
 match p,h with
 | [],_=>rfl
 | [_],_=>rfl
theorem usesL_len (l:List Lnk):∀ p,(usesL l p).length = p.length - 1
 | []=>rfl
 | [_]=>rfl
 | a :: b :: p=>by simp only [usesL,List.length_cons,usesL_len l (b :: p)]; omega
set_option maxHeartbeats 1000000 in
set_option maxRecDepth 10000 in
theorem t83 (x:Lnk) (a b:Int):CFun Tryz.prog 86 [encL x,.ptr 0 0,.ptr 1 0] [[.int .i64 a],[.int .i64 b]] (.bool (isL a b x)) [[.int .i64 a],[.int .i64 b]]:=by
 refine CFun.intro (tr:=[]) (fz:=[]) (n:=15) (rs:=[.tmp 4]) Tryz.func86 rfl (by kernel_rfl) rfl rfl mixed (by kernel_rfl) (by simp) (by simp) ?_
 unfold isL
 by_cases a1:x.From = a
 · by_cases a2:x.To = b
   · simp [a1,a2]
   · simp [a1,a2]
 · simp [a1]
set_option maxHeartbeats 4000000 in
set_option maxRecDepth 10000 in
theorem t82 (l:List Lnk) (k:Nat) (hk:l.length = k) (hk2:k < 9223372036854775807) (a b:Int) :
   CFun Tryz.prog 85 [.sl 13 (l.map encL) .sh,.fn 86 [] [.ptr 0 0,.ptr 1 0]] [[.int .i64 a],[.int .i64 b]] (.int .i64 (findI l a b)) [[.int .i64 a],[.int .i64 b]]:=by
 refine CFun.intro (tr:=[]) (fz:=[]) (n:=19) (rs:=[.tmp 4]) Tryz.func85 rfl (by kernel_rfl) rfl rfl mixed (by kernel_rfl) (by simp) (by simp) ?_
 have h:=fun y=>t83 y a b
 unfold findI
 generalize isL a b = f at *
 simp
 refine LoopK.intro (tr:=[]) mixed (by kernel_rfl) (fun j:Nat=>[(0,.sl 13 (l.map encL) .sh),(1,.fn 86 [] [.ptr 0 0,.ptr 1 0]),(7,.int .i64 k),(8,.int .i64 j)]) (fun _=>[[.int .i64 a],[.int .i64 b]]) (fun j=>j ≤ k ∧ idxL f l 0 = idxL f (l.drop j) j) (fun j=>k - j) 0 ?_ ?_ ?_
 · simp
 · simp [hk]
 · rintro j ⟨h1,h2⟩
   by_cases hj:j < k
   · obtain ⟨y,hy,hd⟩:=get_drop (l:=l) (i:=j) (by omega)
     rw [hd] at h2
     simp only [idxL] at h2
     have w1:IntKind.i64.wrap ((j:Int) + 1) = j + 1:=wrap_in (by omega)
     clear hd
     have hyc:=h y
     generalize f y = b at hyc h2
     simp [hj,hk,hy,gE hy]
     refine ⟨_,_,.inl (by simpa using hyc),by simp,?_⟩
     cases b with
     | true=>simp at h2; simp [h2]
     | false =>
       simp at h2
       simp [w1]
       exact ⟨j + 1,⟨by omega,h2⟩,by omega,by simp⟩
   · have:j = k:=by omega
     subst this
     rw [List.drop_eq_nil_of_le (by omega)] at h2
     simp [hk,h2,idxL]
set_option maxHeartbeats 4000000 in
set_option maxRecDepth 10000 in
theorem t67 (l:List Lnk) (k:Nat) (hk:l.length = k) (hk2:k < 9223372036854775807) (a b:Int):CFun Tryz.prog 58 [.sl 13 (l.map encL) .sh,.int .i64 a,.int .i64 b] [] (.int .i64 (findI l a b)) []:=by
 refine CFun.intro (tr:=[]) (fz:=[]) (n:=10) (rs:=[.tmp 6]) Tryz.func58 rfl (by kernel_rfl) rfl rfl mixed (by kernel_rfl) (by simp) (by simp) ?_
 have h:=t82 l k hk hk2 a b
 simp
 refine ⟨_,_,.inl (by simpa using h),by simp,?_⟩
 simp
set_option maxHeartbeats 4000000 in
set_option maxRecDepth 10000 in
theorem t41 (l:List Lnk) (k:Nat) (hk:l.length = k) (hk2:k < 9223372036854775807) (p:List Int) (m:Nat) (hm:p.length = m) (hm2:m < 1000000):CFun Tryz.prog 28 [.sl 13 (l.map encL) .sh,.sl 1 (p.map encI) .sh] [] (.sl 1 ((usesL l p).map encI) .sh) []:=by
 refine CFun.intro (tr:=[13]) (fz:=[]) (n:=28) (rs:=[.tmp 4]) Tryz.func28 rfl (by kernel_rfl) rfl rfl mixed (by kernel_rfl) (by simp) (by simp) ?_
 have h:=fun a b H=>(t67 l k hk hk2 a b).up' H rfl rfl
 obtain ⟨T,hT⟩:∃ T,T = usesL l p:=⟨_,rfl⟩
 have hTl:T.length = m - 1:=by rw [hT,usesL_len,hm]
 rw [← hT]
 simp
 refine LoopK.intro (tr:=[13]) mixed (by kernel_rfl) (fun s:Nat × List Int=>[(0,.sl 13 (l.map encL) .sh),(1,.sl 1 (p.map encI) .sh),(5,.sl 1 (s.2.map encI) .own),(6,.int .i64 (s.1 + 1))]) (fun _=>[])
   (fun s=>s.1 ≤ m ∧ T = s.2 ++ usesL l (p.drop s.1)) (fun s=>m - s.1) (0,[]) ?_ ?_ ?_
 · simp [hT]
 · simp
 · rintro ⟨i,us⟩ ⟨h1,h2⟩
   simp only at h1 h2
   have hul:us.length ≤ m:=by
     have:=congrArg List.length h2
     simp at this
     omega
   by_cases hi:i + 1 < m
   · obtain ⟨x,hx⟩:∃ x,p[i]? = some x:=⟨_,List.getElem?_eq_getElem (by omega)⟩
     obtain ⟨y,hy⟩:∃ y,p[i + 1]? = some y:=⟨_,List.getElem?_eq_getElem (by omega)⟩
     rw [usesL_drop hx hy] at h2
     have hf:=h x y
     generalize findI l x y = f at *
     have w3:IntKind.i64.wrap ((i:Int) + 1 + 1) = (i:Int) + 1 + 1:=wrap_in (by omega)
     have w4:IntKind.i64.wrap (i:Int) = i:=wrap_in (by omega)
     have hi':(i:Int) + 1 < m:=by omega
     have hi2:i < m:=by omega
     have hn:((i:Int) + 1).toNat = i + 1:=by omega
     have s1:us.length + 1 ≤ 140737488355328:=by omega
     have s2:(us.length + 1) * 8 ≤ 140737488355328:=by omega
     simp [hi,hi',hi2,hm,hx,gE hx,hy,gE hy,w4,hn]
     refine ⟨_,_,.inl (by simpa [cargs] using hf _),by simp [cargs],?_⟩
     simp [s1,s2,w3]
     exact ⟨i + 1,us ++ [f],⟨by omega,by simp [h2]⟩,by omega,by simp⟩
   · have hi':¬ (i:Int) + 1 < m:=by omega
     rw [usesL_short (by rw [List.length_drop]; omega),List.append_nil] at h2
     simp [hi,hi',hm,h2]
end Go.Proofs.YtpmmnnaaoideeaaGreat
