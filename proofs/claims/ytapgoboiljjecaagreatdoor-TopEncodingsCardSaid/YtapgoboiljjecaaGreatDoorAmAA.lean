/- The abstract machine, part twenty-seven: a variable of the caller's that a callee takes over. -/
import Derived.Test.YtapgoboiljjecaaGreatDoorAmY
namespace Go.Am
open Go
set_option linter.unusedSectionVars false
variable [Globs]
theorem CFun.adopt {P:Program} {f:FuncId} {args:List AVal} {H:List (List AVal)} {x:AVal} {H':List (List AVal)} {p:Nat} {cs:List AVal} (hp:H[p]? = some cs) (ha:args.all (low H.length) = true)
   (h:CFun P f (args.map (ren (mv p H.length))) (H.set p [] ++ [cs]) x H'):CFun P f args H x H':=by
 have hpl:p < H.length:=(List.getElem?_eq_some_iff.1 hp).1
 have hlen:(H.set p [] ++ [cs]).length = H.length + 1:=by simp
 refine ⟨h.1,fun G w cargs hs hk1 hk2 hz hr=>?_⟩
 have hr':∀ i,i < H.length → (G.adopt p H.length).r (mv p H.length i) = G.r i:=by
   intro i hi
   simp only [Gh.adopt,mv]
   by_cases e:i = p
   · rw [if_pos e,if_pos rfl,e]
   · rw [if_neg e,if_neg (by omega)]
 refine (h.2 (G.adopt p H.length) w cargs (hs.adopt hp) (fun b i hb=>?_) (fun b hb=>?_) (by simpa using hz) (fun i y v hy hv=>?_)).mono ?_
 · simp only [Gh.adopt] at hb
   cases e:G.K b with
   | none=>simp [e] at hb
   | some k=>cases k <;> simp [e] at hb; exact hk1 b _ e
 · simp only [Gh.adopt] at hb
   cases e:G.K b with
   | none=>simp [e] at hb
   | some k=>cases k <;> simp [e] at hb; exact hk2 b e
 · rw [List.getElem?_map,Option.map_eq_some_iff] at hy
   obtain ⟨y0,hy0,rfl⟩:=hy
   rw [hlen]
   exact ren_rep (fun i hi=>by unfold mv; split <;> omega) hr' (hr i y0 v hy0 hv) (List.all_eq_true.1 ha y0 (List.mem_of_getElem? hy0))
 · rintro e w' ⟨v,G',rfl,g1,g2,g3,g4,g5,g6⟩
   rw [hlen] at g1 g6
   refine ⟨v,G',rfl,⟨g1.os,g1.tape,g1.output,g1.size,fun i hi=>?_,g1.mono,fun b hb ht=>?_⟩,g2,g3,g4,g5,by omega⟩
   · rw [g1.rho i (by omega)]
     simp only [Gh.adopt]
     rw [if_neg (by omega)]
   · have ht':¬ (G.adopt p H.length).Tch b:=fun t=>ht ((adopt_tch _ _ _ _).1 t)
     obtain ⟨q1,q2,q3⟩:=g1.old b hb ht'
     refine ⟨q1,?_,q3⟩
     rw [q2]
     simp only [Gh.adopt]
     cases e:G.K b with
     | none=>rfl
     | some k =>
       cases k with
       | box id=>exact (ht (.inl ⟨id,e⟩)).elim
       | cell id j=>exact (ht (.inr ⟨id,j,e⟩)).elim
       | _=>rfl
end Go.Am
