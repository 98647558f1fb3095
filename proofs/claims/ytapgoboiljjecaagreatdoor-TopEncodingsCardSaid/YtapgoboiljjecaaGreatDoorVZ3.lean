/- For all bytes the law TopEncodings returns true: what a decoder takes, its encoder gives back, byte for byte. The card: the table of flags is tied to the program's text. -/
import Derived.Test.YtapgoboiljjecaaGreatDoorV33
import Derived.Test.YtapgoboiljjecaaGreatDoorAmU
import Derived.Test.YtapgoboiljjecaaGreatDoorRows
import Derived.Test.YtapgoboiljjecaaGreatDoorCards
import Derived.Test.YtapgoboiljjecaaGreatDoorTie
import Derived.ProofKit
import Derived.LaidMore
import Derived.Lib.LaidTab
import Derived.SevenTiedAt
set_option linter.unusedSimpArgs false
set_option linter.unusedVariables false
namespace Go.Proofs.YtapgoboiljjecaaGreatDoor
open Go Go.Am
theorem Rds_int {k:IntKind} {ts:List CTy} {cs:List AVal} (h:Rds (.int k :: ts) cs):∃ n r,cs = .int k n :: r ∧ Rds ts r ∧ (Lit.int k n).wf = true:=by
 simp only [Rds,Rd] at h
 obtain ⟨c,r,rfl,⟨n,rfl,w⟩,h⟩:=h
 exact ⟨n,r,rfl,h,w⟩
theorem Rds_nil {cs:List AVal} (h:Rds [] cs):cs = []:=h
theorem decAll {α:Type} {enc:α → AVal}:∀ (xs:List AVal),(∀ y ∈ xs,∃ a,y = enc a) → ∃ l:List α,xs = l.map enc:=by
 intro xs
 induction xs with
 | nil=>exact fun _=>⟨[],rfl⟩
 | cons x r ih =>
   intro h
   obtain ⟨a,rfl⟩:=h x (by simp)
   obtain ⟨l,rfl⟩:=ih fun y hy=>h y (by simp [hy])
   exact ⟨a :: l,rfl⟩
theorem rd_list {α:Type} {enc:α → AVal} {ag:Bool} {by_:Nat} {e:List CTy} {x:AVal} (h:RdA (false,[.sl ag by_ e]) x) (hd:∀ y cs,(if ag = true then y = .agg cs else cs = [y]) → Rds e cs → ∃ a,y = enc a) :
   ∃ l:List α,x = .sl e.length (l.map enc) .sh ∧ l.length * by_ ≤ reachBytes:=by
 obtain ⟨cs,h1,h2⟩:=h
 simp only [Rds,Rd] at h2
 obtain ⟨y,r,rfl,⟨xs,rfl,hl,hx⟩,rfl⟩:=h2
 simp at h1
 subst h1
 obtain ⟨l,rfl⟩:=decAll (enc:=enc) xs fun y hy=>by
   obtain ⟨cs,h1,h2⟩:=hx y hy
   exact hd y cs h1 h2
 exact ⟨l,rfl,by simpa using hl⟩
def ty8:Bool × List CTy:=(false,[.sl false 1 [.int .u8]])
theorem rd_8b {x:AVal} (h:RdA ty8 x):∃ b:List Int,x = encBs b ∧ isB b ∧ b.length ≤ 140737488351232:=by
 obtain ⟨l,rfl,hl⟩:=rd_list (α:={ x:Int // 0 ≤ x ∧ x ≤ 255 }) (enc:=fun x=>.int .u8 x.1) h fun y cs h1 h2=>by
   obtain ⟨n,r,rfl,h3,h4⟩:=Rds_int h2
   obtain rfl:=Rds_nil h3
   have hw:0 ≤ n ∧ n ≤ 255:=by simpa [Lit.wf,IntKind.min,IntKind.max,IntKind.signed,IntKind.bits] using h4
   simp at h1
   exact ⟨⟨n,hw⟩,h1.symm⟩
 refine ⟨l.map Subtype.val,?_,?_,?_⟩
 · simp [Function.comp_def]
 · intro x hx
   obtain ⟨y,_,rfl⟩:=List.mem_map.1 hx
   exact y.2
 · have:reachBytes = 140737488351232:=by decide
   simp at hl ⊢
   omega
theorem law3:∀ xs,RdAs [ty8] xs → CFun Tryz.prog 3 xs [] (.bool true) []:=by
 rintro xs ⟨x,r,rfl,h1,rfl⟩
 obtain ⟨b,rfl,hb,hl⟩:=rd_8b h1
 exact t3 b hb (by omega)
def nameL:String:=Rows.topEncodingsRow.named.headD ""
def laidL:List (String × DataW Unit):=[(nameL,Rows.laid_routing_attrs_flags)]
def flagsZ:List Int:=[224,64,64,64,128,64,64,192,192,128,128]
theorem globOk_of {W:World} (h:laidMetH Tryz.prog laidL W):GlobOk W:=by
 have h1:laidMet Tryz.prog ((nameL,Lib.tabData .u8 flagsZ) :: []) W:=h
 have hg:Tryz.prog.globalNamed nameL = some 0:=by kernel_rfl
 have hT:=Lib.tabIs_of_head (t:=169) (e:=5) (n:=11) hg (by kernel_rfl) (by kernel_rfl) (by kernel_rfl) (by kernel_rfl) (by kernel_rfl) h1
 refine ⟨fun b o v hv=>?_⟩
 by_cases hb:b = 0
 · subst hb
   by_cases ho:o < 11
   · have hc:=hT.cell hg o (show o < flagsZ.length from ho)
     rw [hc,← hv]
     rcases (by omega:o = 0 ∨ o = 1 ∨ o = 2 ∨ o = 3 ∨ o = 4 ∨ o = 5 ∨ o = 6 ∨ o = 7 ∨ o = 8 ∨ o = 9 ∨ o = 10) with rfl | rfl | rfl | rfl | rfl | rfl | rfl | rfl | rfl | rfl | rfl <;> rfl
   · exfalso
     have e:(Globs.tab 0)[o]? = none:=List.getElem?_eq_none (by rw [globs0]; simp; omega)
     unfold Globs.at_ at hv
     rw [e] at hv
     cases hv
 · exfalso
   have e:Globs.tab b = []:=if_neg hb
   unfold Globs.at_ at hv
   rw [e] at hv
   simp at hv
theorem door_met (os:Os) (args:Array Value):laidMetH Tryz.prog laidL ((World.doorLaid Tryz.prog 14 os).forCall (fun _ _=>0) ⟨#[],args,[]⟩).memory :=
 laidMetH_of_parts3 (fuel:=8) (laidMet_of_run' 8 (by kernel_rfl) (by kernel_rfl)) (by kernel_rfl) (by kernel_rfl)
set_option maxRecDepth 100000 in
theorem lifted3 (os:Os) (started:os.Started) (H:Type) (enc:TypeId × Value → H) :
   ReturnsInHanded {} Tryz.checked os 3 .any (fun w args=>(Rows.topEncodingsSpec.pre enc Tryz.prog Tryz.f3 [] false w args ∧ laidMetH Tryz.prog laidL w) ∧ sizedMet enc Tryz.prog Tryz.f3 (OpenSpec.ofChange Rows.topEncodingsSpec) false w args)
     (Rows.topEncodingsSpec.post enc Tryz.prog Tryz.f3 false true false false):=by
 refine returnsInHanded_of_change_and (C:=Tryz.checked) (X:=fun w _=>laidMetH Tryz.prog laidL w) (fun _ _ _ hh h=>h.of_heap hh) own started (by kernel_rfl) Tryz.func3
   (ChangeSpec.witness_shaped (enc:=enc) (C:=Tryz.checked) (os:=os) (X:=fun w _=>laidMetH Tryz.prog laidL w) false (World.doorLaid Tryz.prog 14 os) #[.slice none 0 0] 8 rfl (World.shaped_of_RefB (by kernel_rfl) (by kernel_rfl)) (by kernel_rfl) (by kernel_rfl) (by kernel_rfl) (door_met os _)) ?_
 intro W base args ds gs before hval hW _ hsz hL _
 have:GlobOk W:=globOk_of hL
 exact law_calls (f:=3) 6 [ty8] 4 (by kernel_rfl) (by kernel_rfl) rfl (by kernel_rfl) rfl (fun ds hd=>by
   match ds,hd with
   | [a],_=>rfl) law3 W base args ds gs before hval hW hsz
theorem row_holds:Rows.TopEncodingsSaid :=
 OpenClaim.holds_of_wide 3 Tryz.f3 rfl rfl rfl rfl rfl rfl rfl ⟨rfl,rfl,rfl,rfl,rfl⟩ rfl rfl rfl rfl rfl (by kernel_rfl) Tryz.func3 (by kernel_rfl)
   (of_decide_eq_true (by kernel_rfl)) (by unfold Func.isWrapper; first | (rw [if_pos (by decide +kernel)]; kernel_rfl) | (rw [if_neg (by decide +kernel)]; exact ⟨rfl,rfl⟩))
   (fun os started H enc _=>lifted3 os started H enc)
theorem proved3:Rows.TopEncodingsCardSaid :=
 Claim7.holds_tied_plain_at .later [] [.data] true (true,"880921cc6174568b854817b83f8cfed8eb5f10dd77df3748e28ffa04597bb985") false
   row_holds (fun _ h=>by cases h) (by kernel_rfl) (fun _ h=>by cases h) topEncodings_row_tie rfl ⟨rfl,rfl⟩ (by kernel_rfl) rfl
   (fun f fn hf hfn=>by
     obtain rfl:f = 3:=Option.some.inj ((show Tryz.prog.funcNamed Rows.topEncodingsRow.func = some 3 by kernel_rfl).symm.trans hf) |>.symm
     obtain rfl:fn = Tryz.f3:=(Option.some.inj (Tryz.func3.symm.trans hfn)).symm
     exact ⟨by kernel_rfl,fun j t ht=>by
       rw [show Tryz.f3.params = #[22] by kernel_rfl] at ht
       have hm:t ∈ [22]:=by simpa using Array.mem_of_getElem? ht
       have hall:([22].all fun u=>!Tryz.prog.wantsStandIn u) = true:=by kernel_rfl
       exact (show Tryz.prog.wantsStandIn t = false by simpa using List.all_eq_true.1 hall t hm)⟩)
   (by kernel_rfl)
end Go.Proofs.YtapgoboiljjecaaGreatDoor
