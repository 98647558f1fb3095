import Derived.Test.YthonenmafbpbkaaFXDS12
set_option linter.unusedSimpArgs false
set_option linter.unusedVariables false
namespace Go.Proofs.Ythonenmafbpbkaa
open Go Go.Am
structure LKey where
  Ty : Int
  ID : Int
  Len : Int
  Router : Int
  deriving DecidableEq
@[simp] def cellsY (k : LKey) : List AVal := [.int .i64 k.Ty, .int .u32 k.ID, .int .i64 k.Len, .int .u32 k.Router]
@[simp] def encY (k : LKey) : AVal := .agg (cellsY k)
def keyH (h : Hdr) : LKey := ⟨h.Ty, h.ID, h.Len, h.Router⟩
set_option maxRecDepth 10000 in
theorem c25 (h : Hdr) : CFun Try.prog 61 [encH h] [] (encY (keyH h)) [] := by
 refine CFun.intro (tr := []) (fz := []) (n := 12) (rs := [.cell 2 43]) Try.func61 rfl (by kernel_rfl) rfl rfl mixed (by kernel_rfl) (by simp) (by simp) ?_
 simp [keyH]
set_option maxRecDepth 10000 in
theorem c26 (h : Hdr) : CFun Try.prog 23 [encH h] [] (encY (keyH h)) [] := by
 refine CFun.intro (tr := []) (fz := []) (n := 12) (rs := [.cell 2 43]) Try.func23 rfl (by kernel_rfl) rfl rfl mixed (by kernel_rfl) (by simp) (by simp) ?_
 simp [keyH]
def cmpY (a b : LKey) : Int := orL [cmpI a.Ty b.Ty, cmpI a.ID b.ID, cmpI a.Len b.Len, cmpI a.Router b.Router]
end Go.Proofs.Ythonenmafbpbkaa

namespace Go.Proofs.Ythonenmafbpbkaa
open Go Go.Am
end Go.Proofs.Ythonenmafbpbkaa

namespace Go.Proofs.Ythonenmafbpbkaa
open Go Go.Am
end Go.Proofs.Ythonenmafbpbkaa

namespace Go.Proofs.Ythonenmafbpbkaa
open Go Go.Am
end Go.Proofs.Ythonenmafbpbkaa
