/- For every number, every list of links, every list of tunnels, every tunnel and every identifier the law TunnelSetups returns true. No condition. -/
import Derived.Test.YtpmmnnaaoideeaaGreatGT60
set_option linter.unusedSimpArgs false
set_option linter.unusedVariables false
namespace Go.Proofs.YtpmmnnaaoideeaaGreat
open Go Go.Am
theorem law4:∀ xs,RdAs [tyI,tyLs,tyTs,tyT,tyI] xs → CFun Tryz.prog 4 xs [] (.bool true) []:=by
 rintro xs ⟨e,r,rfl,he,a,r,rfl,ha,b,r,rfl,hb,d,r,rfl,hd,c,r,rfl,hc,rfl⟩
 obtain ⟨n,rfl,_⟩:=rd_i he
 obtain ⟨l,rfl,hl,hF⟩:=rd_Ls ha
 obtain ⟨ts,rfl,hr,ht⟩:=rd_Ts2 hb
 obtain ⟨w,rfl,hw⟩:=rd_T2 hd
 obtain ⟨id,rfl,_⟩:=rd_i hc
 exact t4s n l _ rfl hF ts _ rfl hr ht w hw id
set_option maxRecDepth 100000 in
theorem lifted4 (os:Os) (started:os.Started) (H:Type) (enc:TypeId × Value → H) :
   ReturnsInHanded {} Tryz.checked os 4 .any (Rows.tunnelSetupsSpec.pre6 enc Tryz.prog Tryz.f4 Rows.tunnelSetupsRow.domain false) (Rows.tunnelSetupsSpec.post enc Tryz.prog Tryz.f4 false true false false):=by
 refine returnsInHanded_of_change_sized (C:=Tryz.checked) own started (by kernel_rfl) Tryz.func4
   (ChangeSpec.witness6 (enc:=enc) (C:=Tryz.checked) (s:=Rows.tunnelSetupsSpec) false ⟨#[],#[.int .i64 0,.slice none 0 0,.slice none 0 0,.agg #[.int .i64 0,.int .i64 0,.int .i64 0,.int .i64 0,.int .i64 0,.int .i64 0,.int .u32 0,.int .u32 0,.int .i64 0,.slice none 0 0,.slice none 0 0,.slice none 0 0],.int .i64 0],[]⟩ 8 (by kernel_rfl) (by kernel_rfl) (by kernel_rfl) (by kernel_rfl)) ?_
 intro W base args ds gs before hval hW _ hsz _
 exact law_calls (f:=4) 6 [tyI,tyLs,tyTs,tyT,tyI] 4 (by kernel_rfl) (by kernel_rfl) rfl (by kernel_rfl) rfl (fun ds hd=>by
   match ds,hd with
   | [a,b,c,d,e],_=>rfl) law4 W base args ds gs before hval hW hsz
theorem proved4:Rows.TunnelSetupsSaid :=
 OpenClaim.holds_of_wide 4 Tryz.f4 rfl rfl rfl rfl rfl rfl rfl ⟨rfl,rfl,rfl,rfl,rfl⟩ rfl rfl rfl rfl rfl (by kernel_rfl) Tryz.func4 (by kernel_rfl)
   (of_decide_eq_true (by kernel_rfl)) (by unfold Func.isWrapper; first | (rw [if_pos (by decide +kernel)]; kernel_rfl) | (rw [if_neg (by decide +kernel)]; exact ⟨rfl,rfl⟩))
   (fun os started H enc _=>lifted4 os started H enc)
end Go.Proofs.YtpmmnnaaoideeaaGreat
