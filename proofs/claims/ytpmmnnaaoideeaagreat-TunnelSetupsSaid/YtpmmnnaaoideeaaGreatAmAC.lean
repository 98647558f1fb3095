/- The abstract machine, part twenty-nine: tables of contracts for runs. -/
import Derived.Test.YtpmmnnaaoideeaaGreatAmZ
namespace Go.Am
open Go
theorem noid_low1:∀ {l:List AVal},l.all noid = true → l.all (low 1) = true:=by
 intro l h
 rw [List.all_eq_true] at h ⊢
 intro x hx
 exact noid_low (h x hx)
theorem noid_maps {ρ:Nat → Nat}:∀ {l:List AVal},l.all noid = true → l.map (ren ρ) = l
 | [],_=>rfl
 | x :: l,h=>by
   simp only [List.all_cons,Bool.and_eq_true] at h
   rw [List.map_cons,noid_ren h.1,noid_maps h.2]
@[simp] theorem av_nilp {t:Nat → AVal}:av t (.const (.pointer none)) = .nilp:=Eq.trans rfl rfl
@[simp] theorem apn_eql {e:Bool}:apn true e .eql = some (.bool e):=rfl
@[simp] theorem apn_neq {e:Bool}:apn true e .neq = some (.bool (!e)):=rfl
end Go.Am
