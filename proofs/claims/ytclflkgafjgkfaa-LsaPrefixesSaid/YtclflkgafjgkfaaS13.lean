import Derived.Test.YtclflkgafjgkfaaS12
set_option linter.unusedSimpArgs false
set_option linter.unusedVariables false
namespace Go.Proofs.Ytclflkgafjgkfaa
open Go Go.Am

structure LKey where
  Ty : Int
  ID : Int
  Len : Int
  Router : Int
  deriving DecidableEq
@[simp] def cellsY (k : LKey) : List AVal := [.int .i64 k.Ty, .int .u32 k.ID, .int .i64 k.Len, .int .u32 k.Router]
@[simp] def encY (k : LKey) : AVal := .agg (cellsY k)
def keyH (h : Hdr) : LKey := ⟨h.Ty, h.ID, h.Len, h.Router⟩
set_option maxRecDepth 10000 in
theorem c25 (h : Hdr) : CFun Try.prog 25 [encH h] [] (encY (keyH h)) [] := by
  refine CFun.intro (tr := []) (fz := []) (n := 12) (rs := [.cell 2 45]) Try.func25 rfl (by kernel_rfl) rfl rfl mixed (by kernel_rfl) (by simp) (by simp) ?_
  simp [keyH]
set_option maxRecDepth 10000 in
theorem c26 (h : Hdr) : CFun Try.prog 26 [encH h] [] (encY (keyH h)) [] := by
  refine CFun.intro (tr := []) (fz := []) (n := 12) (rs := [.cell 2 45]) Try.func26 rfl (by kernel_rfl) rfl rfl mixed (by kernel_rfl) (by simp) (by simp) ?_
  simp [keyH]
theorem c63 (a b : Int) : CFun Try.prog 63 [.int .u32 a, .int .u32 b] [] (.int .i64 (cmpI a b)) [] := by
  refine CFun.intro (tr := []) (fz := []) (n := 11) (rs := [.tmp 4]) Try.func63 rfl (by kernel_rfl) rfl rfl mixed (by kernel_rfl) (by simp) (by simp) ?_
  by_cases h : a < b
  · simp [h, cmpI]
  · by_cases h2 : b < a <;> simp [h, h2, cmpI]

def cmpY (a b : LKey) : Int := orL [cmpI a.Ty b.Ty, cmpI a.ID b.ID, cmpI a.Len b.Len, cmpI a.Router b.Router]
set_option maxHeartbeats 2000000 in
set_option maxRecDepth 10000 in
theorem c27 (a b : LKey) : CFun Try.prog 27 [encY a, encY b] [] (.int .i64 (cmpY a b)) [] := by
  refine CFun.intro (tr := []) (fz := []) (n := 27) (rs := [.tmp 4]) Try.func27 rfl (by kernel_rfl) rfl rfl mixed (by kernel_rfl) (by simp) (by simp) ?_
  have h50 := fun H => ((c50 [cmpI a.Ty b.Ty, cmpI a.ID b.ID, cmpI a.Len b.Len, cmpI a.Router b.Router] 4 rfl (by omega)).wk [.sl 1 ([cmpI a.Ty b.Ty, cmpI a.ID b.ID, cmpI a.Len b.Len, cmpI a.Router b.Router].map encI) .full] (by simp) ⟨whole, trivial⟩).up' H rfl rfl
  have h51 : ∀ x y H, CFun Try.prog 51 [.int .i64 x, .int .i64 y] H (.int .i64 (cmpI x y)) H := fun x y H => (c51 x y).up' H rfl rfl
  have h62 : ∀ x y H, CFun Try.prog 62 [.int .u32 x, .int .u32 y] H (.int .i64 (cmpI x y)) H := fun x y H => (c62 x y).up' H rfl rfl
  simp only [List.map_cons, List.map_nil, encI] at h50
  simp
  refine ⟨_, _, .inl (h51 _ _ _), by simp, ?_⟩
  simp
  refine ⟨_, _, .inl (h62 _ _ _), by simp, ?_⟩
  simp
  refine ⟨_, _, .inl (h51 _ _ _), by simp, ?_⟩
  simp
  refine ⟨_, _, .inl (h62 _ _ _), by simp, ?_⟩
  simp
  refine ⟨_, _, .inl (h50 _), by simp, ?_⟩
  simp [cmpY]

set_option maxHeartbeats 2000000 in
set_option maxRecDepth 10000 in
theorem c28 (a b : LKey) : CFun Try.prog 28 [encY a, encY b] [] (.int .i64 (cmpY a b)) [] := by
  refine CFun.intro (tr := []) (fz := []) (n := 40) (rs := [.tmp 4]) Try.func28 rfl (by kernel_rfl) rfl rfl mixed (by kernel_rfl) (by simp) (by simp) ?_
  have h52 : ∀ x y H, CFun Try.prog 52 [.int .i64 x, .int .i64 y] H (.int .i64 (cmpI x y)) H := fun x y H => (c52 x y).up' H rfl rfl
  have h63 : ∀ x y H, CFun Try.prog 63 [.int .u32 x, .int .u32 y] H (.int .i64 (cmpI x y)) H := fun x y H => (c63 x y).up' H rfl rfl
  have nz : ∀ {x y : Int}, x ≠ y → cmpI x y ≠ 0 := fun h h' => h ((cmpI_zero _ _).1 h')
  have zz : ∀ {x y : Int}, x = y → cmpI x y = 0 := fun h => (cmpI_zero _ _).2 h
  by_cases e1 : a.Ty = b.Ty
  case neg =>
    have b1 : (a.Ty != b.Ty) = true := by simpa using e1
    simp [b1]
    refine ⟨_, _, .inl (h52 _ _ _), by simp, ?_⟩
    simp [cmpY, orL, nz e1]
  have b1 : (a.Ty != b.Ty) = false := by simpa using e1
  by_cases e2 : a.ID = b.ID
  case neg =>
    have b2 : (a.ID != b.ID) = true := by simpa using e2
    simp [b1, b2]
    refine ⟨_, _, .inl (h63 _ _ _), by simp, ?_⟩
    simp [cmpY, orL, zz e1, nz e2]
  have b2 : (a.ID != b.ID) = false := by simpa using e2
  by_cases e3 : a.Len = b.Len
  case neg =>
    have b3 : (a.Len != b.Len) = true := by simpa using e3
    simp [b1, b2, b3]
    refine ⟨_, _, .inl (h52 _ _ _), by simp, ?_⟩
    simp [cmpY, orL, zz e1, zz e2, nz e3]
  have b3 : (a.Len != b.Len) = false := by simpa using e3
  simp [b1, b2, b3]
  refine ⟨_, _, .inl (h63 _ _ _), by simp, ?_⟩
  simp [cmpY, orL, zz e1, zz e2, zz e3]

set_option maxHeartbeats 2000000 in
set_option maxRecDepth 10000 in
theorem c7 (h : Hdr) (a b : LKey) : CFun Try.prog 7 [encH h, encY a, encY b] [] (.bool true) [] := by
  refine CFun.intro (tr := []) (fz := []) (n := 24) (rs := [.tmp 6]) Try.func7 rfl (by kernel_rfl) rfl rfl mixed (by kernel_rfl) (by simp) (by simp) ?_
  have h25 := fun H => (c25 h).up' H rfl rfl
  have h26 := fun H => (c26 h).up' H rfl rfl
  have h27 := fun H => (c27 a b).up' H rfl rfl
  have h28 := fun H => (c28 a b).up' H rfl rfl
  have h15 := fun H => c15.up' H rfl rfl
  generalize keyH h = k at h25 h26
  generalize cmpY a b = c at h27 h28
  simp
  refine ⟨_, _, .inl (h25 _), by simp, ?_⟩
  simp
  refine ⟨_, _, .inl (h26 _), by simp, ?_⟩
  simp
  refine ⟨_, _, .inl (h27 _), by simp, ?_⟩
  simp
  refine ⟨_, _, .inl (h28 _), by simp, ?_⟩
  simp
  refine ⟨_, _, .inl (h15 _), by simp, ?_⟩
  simp

def tyY : Bool × List CTy := (true, [.int .i64, .int .u32, .int .i64, .int .u32])
theorem rd_Y {x : AVal} (h : RdA tyY x) : ∃ k : LKey, x = encY k := by
  obtain ⟨cs, h1, h2⟩ := h
  obtain ⟨a1, r, rfl, h, _⟩ := Rds_int h2
  obtain ⟨a2, r, rfl, h, _⟩ := Rds_int h
  obtain ⟨a3, r, rfl, h, _⟩ := Rds_int h
  obtain ⟨a4, r, rfl, h, _⟩ := Rds_int h
  obtain rfl := Rds_nil h
  exact ⟨⟨a1, a2, a3, a4⟩, h1⟩
end Go.Proofs.Ytclflkgafjgkfaa
