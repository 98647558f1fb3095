import Derived.Test.YtclflkgafjgkfaaS28
set_option linter.unusedSimpArgs false
set_option linter.unusedVariables false
namespace Go.Proofs.Ytclflkgafjgkfaa
open Go Go.Am
set_option linter.unusedSimpArgs false

/-- The reader's cells. -/
@[simp] def cellsR (b : List Int) (at_ : Nat) (bad : Bool) : List AVal := [encBs b, .int .i64 at_, .bool bad]

set_option maxHeartbeats 2000000 in
set_option maxRecDepth 10000 in
theorem c73 (b : List Int) (hb : isB b) (hlen : b.length < 281474976710656) (at_ n : Nat) (ha : at_ < 281474976710656) (hn : n ≤ 8) (bad : Bool) :
    CFun Try.prog 73 [.ptr 0 0, .int .i64 n] [cellsR b at_ bad] (.int .u64 (if at_ + n ≤ b.length then numAt b at_ n else 0)) [cellsR b (at_ + n) (bad || !decide (at_ + n ≤ b.length))] := by
  refine CFun.intro (tr := []) (fz := []) (n := 34) (rs := [.tmp 4]) Try.func73 rfl (by kernel_rfl) rfl rfl mixed (by kernel_rfl) (by simp) (by simp) ?_
  have h93 := fun H => (c93 b hb hlen at_ n ha hn).up' H rfl rfl
  have w2 : IntKind.i64.wrap ((at_ : Int) + n) = at_ + n := wrap_in (by omega)
  simp
  refine ⟨_, _, .inl (h93 _), by simp, ?_⟩
  by_cases h : at_ + n ≤ b.length
  · simp [h, w2]
  · simp [h, w2]
theorem g73 {H : List (List AVal)} {id : Nat} {b : List Int} {at_ : Nat} {bad : Bool} (n : Nat) (hid : H[id]? = some (cellsR b at_ bad)) (hb : isB b) (hlen : b.length < 281474976710656) (ha : at_ < 281474976710656) (hn : n ≤ 8) :
    CFun Try.prog 73 [.ptr id 0, .int .i64 n] H (.int .u64 (if at_ + n ≤ b.length then numAt b at_ n else 0)) (H.set id (cellsR b (at_ + n) (bad || !decide (at_ + n ≤ b.length)))) :=
  (c73 b hb hlen at_ n ha hn bad).at hid rfl rfl rfl rfl
/-- Read where there is enough. -/
theorem r73 {H : List (List AVal)} {id : Nat} {b : List Int} {at_ : Nat} {bad : Bool} (n : Nat) (hid : H[id]? = some (cellsR b at_ bad)) (hb : isB b) (hlen : b.length < 281474976710656) (h : at_ + n ≤ b.length) (hn : n ≤ 8) :
    CFun Try.prog 73 [.ptr id 0, .int .i64 n] H (.int .u64 (numAt b at_ n)) (H.set id (cellsR b (at_ + n) bad)) := by
  have := g73 (H := H) n hid hb hlen (by omega) hn
  simpa only [h, if_true, decide_true, Bool.not_true, Bool.or_false] using this

def W32 (x : Int) : Int := IntKind.u32.wrap x
def I64 (x : Int) : Int := IntKind.i64.wrap x
def hdrAt (b : List Int) : Hdr := ⟨IntKind.i64.wrap (numAt b 2 1), IntKind.u32.wrap (numAt b 4 4), IntKind.i64.wrap (numAt b 3 1), IntKind.u32.wrap (numAt b 8 4), IntKind.i64.wrap (numAt b 12 4), IntKind.i64.wrap (numAt b 0 2), IntKind.i64.wrap (numAt b 16 2)⟩

set_option maxHeartbeats 4000000 in
set_option maxRecDepth 10000 in
theorem c71 (b : List Int) (hb : isB b) (hlen : b.length < 281474976710656) (h18 : 18 ≤ b.length) : CFun Try.prog 71 [.ptr 0 0] [cellsR b 0 false] (encH (hdrAt b)) [cellsR b 18 false] := by
  refine CFun.intro (tr := []) (fz := []) (n := 33) (rs := [.cell 2 24]) Try.func71 rfl (by kernel_rfl) rfl rfl mixed (by kernel_rfl) (by simp) (by simp) ?_
  simp
  refine ⟨_, _, .inl (r73 (b := b) (at_ := 0) (bad := false) 2 (by rfl) hb hlen (by omega) (by omega)), by simp, ?_⟩
  simp
  refine ⟨_, _, .inl (r73 (b := b) (at_ := 2) (bad := false) 1 (by rfl) hb hlen (by omega) (by omega)), by simp, ?_⟩
  simp
  refine ⟨_, _, .inl (r73 (b := b) (at_ := 3) (bad := false) 1 (by rfl) hb hlen (by omega) (by omega)), by simp, ?_⟩
  simp
  refine ⟨_, _, .inl (r73 (b := b) (at_ := 4) (bad := false) 4 (by rfl) hb hlen (by omega) (by omega)), by simp, ?_⟩
  simp
  refine ⟨_, _, .inl (r73 (b := b) (at_ := 8) (bad := false) 4 (by rfl) hb hlen (by omega) (by omega)), by simp, ?_⟩
  simp
  refine ⟨_, _, .inl (r73 (b := b) (at_ := 12) (bad := false) 4 (by rfl) hb hlen (by omega) (by omega)), by simp, ?_⟩
  simp
  refine ⟨_, _, .inl (r73 (b := b) (at_ := 16) (bad := false) 2 (by rfl) hb hlen (by omega) (by omega)), by simp, ?_⟩
  simp [hdrAt]

/-- What DecodeHeader answers. -/
def decH (b : List Int) : Hdr × Int :=
  if b.length < 18 then (⟨0, 0, 0, 0, 0, 0, 0⟩, 3) else if chkH (hdrAt b) ≠ 0 then (⟨0, 0, 0, 0, 0, 0, 0⟩, chkH (hdrAt b)) else (hdrAt b, 0)
set_option maxHeartbeats 4000000 in
set_option maxRecDepth 10000 in
theorem c36 (b : List Int) (hb : isB b) (hlen : b.length < 281474976710656) : CFun Try.prog 36 [encBs b] [] (.tup [encH (decH b).1, .int .i64 (decH b).2]) [] := by
  refine CFun.intro (tr := []) (fz := []) (n := 21) (rs := [.cell 2 24, .tmp 3]) Try.func36 rfl (by kernel_rfl) rfl rfl mixed (by kernel_rfl) (by simp) (by simp) ?_
  obtain ⟨n, hn⟩ : ∃ n, b.length = n := ⟨_, rfl⟩
  have hc : (b.length : Int) = n := by omega
  unfold decH
  by_cases h : n < 18
  · have z : (n : Int) < 18 := by omega
    simp [hc, hn, z, h]
  · have z : ¬ (n : Int) < 18 := by omega
    have h71 : ∀ {H : List (List AVal)}, H[1]? = some (cellsR b 0 false) → CFun Try.prog 71 [.ptr 1 0] H (encH (hdrAt b)) (H.set 1 (cellsR b 18 false)) := fun hid => (c71 b hb hlen (by omega)).at hid rfl rfl rfl rfl
    have h40 := fun H => (c40 (hdrAt b)).up' H rfl rfl
    generalize hdrAt b = d at h71 h40
    simp [hc, hn, z, h]
    refine ⟨_, _, .inl (h71 (by rfl)), by simp, ?_⟩
    simp
    refine ⟨_, _, .inl (h40 _), by simp, ?_⟩
    by_cases e : chkH d = 0
    · simp [e]
    · simp [e]

set_option maxHeartbeats 2000000 in
set_option maxRecDepth 10000 in
theorem c75 (b : List Int) (hb : isB b) (hlen : b.length < 281474976710656) (at_ n : Nat) (ha : at_ < 281474976710656) (hn : n ≤ 8) :
    CFun Try.prog 75 [encBs b, .int .i64 at_, .int .i64 n] [] (.int .u64 (numAt b at_ n)) [] := by
  refine CFun.intro (tr := []) (fz := []) (n := 31) (rs := [.tmp 6]) Try.func75 rfl (by kernel_rfl) rfl rfl mixed (by kernel_rfl) (by simp) (by simp) ?_
  obtain ⟨m, hm⟩ : ∃ m, b.length = m := ⟨_, rfl⟩
  have hc : (b.length : Int) = m := by omega
  have w2 : IntKind.i64.wrap ((at_ : Int) + n) = at_ + n := wrap_in (by omega)
  have hin := fun i => getD_in hb i
  have hna := fun k => numAt_in hb at_ k
  have hst : ∀ k, numAt b at_ (k + 1) = numAt b at_ k * 256 + b.getD (at_ + k) 0 := fun _ => rfl
  have hz : numAt b at_ 0 = 0 := rfl
  simp
  refine LoopK.intro (tr := []) mixed (by kernel_rfl) (fun i : Nat => [(0, encBs b), (1, .int .i64 at_), (2, .int .i64 n), (7, .int .u64 (numAt b at_ i)), (8, .int .i64 ((at_ : Int) + i))]) (fun q => [])
    (fun i => i ≤ n) (fun i => n - i) 0 ?_ ?_ ?_
  · simp
  · simp [hz]
  · rintro i h1
    by_cases hi : i < n
    · have w1 : IntKind.i64.wrap ((at_ : Int) + i + 1) = (at_ : Int) + (i + 1) := by rw [wrap_in (by omega)]; omega
      have hv := hna i
      have hb' := hin (at_ + i)
      have hp := pow_le8 (show i ≤ 7 by omega)
      have hsu := hst i
      have hx : at_ + i < m → b[at_ + i]? = some (b.getD (at_ + i) 0) := fun hlt => by
        rw [List.getD_eq_getElem?_getD, List.getElem?_eq_getElem (show at_ + i < b.length by omega)]; rfl
      have hx0 : ¬ at_ + i < m → b.getD (at_ + i) 0 = 0 := fun hlt => by
        rw [List.getD_eq_getElem?_getD, List.getElem?_eq_none (by omega)]; rfl
      generalize b.getD (at_ + i) 0 = x at hx hb' hsu hx0
      generalize numAt b at_ i = v at hv hsu ⊢
      have u1 : IntKind.u64.wrap (v * 256) = v * 256 := by rw [wrap_u64]; omega
      have u2 : IntKind.u64.wrap x = x := by rw [wrap_u64]; omega
      have u3 : IntKind.u64.wrap (v * 256 + x) = v * 256 + x := by rw [wrap_u64]; omega
      have d1 : (at_ : Int) + i < at_ + n := by omega
      have d2 : ((at_ : Int) + i).toNat = at_ + i := by omega
      have d3 : (0 : Int) ≤ (at_ : Int) + i := by omega
      by_cases hl : at_ + i < m
      · have hx1 := hx hl
        have d4 : (at_ : Int) + i < m := by omega
        simp [hc, w2, d1, d2, d3, d4, hx1, u1, u2, u3, w1]
        exact ⟨i + 1, by omega, by omega, hsu.symm, by simp⟩
      · have hx1 := hx0 hl
        have d4 : ¬ (at_ : Int) + i < m := by omega
        simp [hc, w2, d1, d2, d3, d4, u1, w1]
        exact ⟨i + 1, by omega, by omega, by rw [hsu, hx1]; simp, by simp⟩
    · have : i = n := by omega
      subst this
      simp [w2]
theorem u75 {b : List Int} (at_ n : Nat) (H : List (List AVal)) (hb : isB b) (hlen : b.length < 281474976710656) (ha : at_ < 281474976710656) (hn : n ≤ 8) :
    CFun Try.prog 75 [encBs b, .int .i64 at_, .int .i64 n] H (.int .u64 (numAt b at_ n)) H := (c75 b hb hlen at_ n ha hn).up' H rfl rfl

set_option maxHeartbeats 2000000 in
set_option maxRecDepth 10000 in
theorem c72 (b : List Int) (hb : isB b) (hlen : b.length < 281474976710656) : CFun Try.prog 72 [encBs b] [] (encH (hdrAt b)) [] := by
  refine CFun.intro (tr := []) (fz := []) (n := 25) (rs := [.cell 2 24]) Try.func72 rfl (by kernel_rfl) rfl rfl mixed (by kernel_rfl) (by simp) (by simp) ?_
  simp
  refine ⟨_, _, .inl (u75 0 2 _ hb hlen (by omega) (by omega)), by simp, ?_⟩
  simp
  refine ⟨_, _, .inl (u75 2 1 _ hb hlen (by omega) (by omega)), by simp, ?_⟩
  simp
  refine ⟨_, _, .inl (u75 3 1 _ hb hlen (by omega) (by omega)), by simp, ?_⟩
  simp
  refine ⟨_, _, .inl (u75 4 4 _ hb hlen (by omega) (by omega)), by simp, ?_⟩
  simp
  refine ⟨_, _, .inl (u75 8 4 _ hb hlen (by omega) (by omega)), by simp, ?_⟩
  simp
  refine ⟨_, _, .inl (u75 12 4 _ hb hlen (by omega) (by omega)), by simp, ?_⟩
  simp
  refine ⟨_, _, .inl (u75 16 2 _ hb hlen (by omega) (by omega)), by simp, ?_⟩
  simp [hdrAt]

theorem hdrAt_W (b : List Int) : inW (hdrAt b).ID := by
  have : ∀ x, inW (IntKind.u32.wrap x) := fun x => by
    have : IntKind.u32.wrap x = x % 4294967296 := rfl
    unfold inW; omega
  exact this _
set_option maxHeartbeats 4000000 in
set_option maxRecDepth 10000 in
theorem c37 (b : List Int) (hb : isB b) (hlen : b.length < 281474976710656) : CFun Try.prog 37 [encBs b] [] (.tup [encH (decH b).1, .int .i64 (decH b).2]) [] := by
  refine CFun.intro (tr := []) (fz := []) (n := 19) (rs := [.cell 2 24, .tmp 3]) Try.func37 rfl (by kernel_rfl) rfl rfl mixed (by kernel_rfl) (by simp) (by simp) ?_
  obtain ⟨n, hn⟩ : ∃ n, b.length = n := ⟨_, rfl⟩
  have hc : (b.length : Int) = n := by omega
  unfold decH
  by_cases h : n < 18
  · have z : (n : Int) < 18 := by omega
    simp [hc, hn, z, h]
  · have z : ¬ (n : Int) < 18 := by omega
    have h72 := fun H => (c72 b hb hlen).up' H rfl rfl
    have h34 := fun H => (c34 (hdrAt b) (hdrAt_W b)).up' H rfl rfl
    generalize hdrAt b = d at h72 h34
    simp [hc, hn, z, h]
    refine ⟨_, _, .inl (h72 _), by simp, ?_⟩
    simp
    refine ⟨_, _, .inl (h34 _), by simp, ?_⟩
    by_cases e : chkH d = 0
    · simp [e]
    · simp [e]

/-- What EncodeHeader answers. -/
def ehL (h : Hdr) : List Int × Int := if chkH h ≠ 0 then ([], chkH h) else (hdrB h, 0)
set_option maxHeartbeats 2000000 in
set_option maxRecDepth 10000 in
theorem c33 (h : Hdr) : CFun Try.prog 33 [encH h] [] (.tup [encBs (ehL h).1, .int .i64 (ehL h).2]) [] := by
  refine CFun.intro (tr := []) (fz := []) (n := 12) (rs := [.tmp 2, .tmp 3]) Try.func33 rfl (by kernel_rfl) rfl rfl mixed (by kernel_rfl) (by simp) (by simp) ?_
  have h40 := fun H => (c40 h).up' H rfl rfl
  have h69 := fun H => (c69 h).up' H rfl rfl
  unfold ehL
  simp
  refine ⟨_, _, .inl (h40 _), by simp, ?_⟩
  by_cases e : chkH h = 0
  · simp [e]
    refine ⟨_, _, .inl (h69 _), by simp, ?_⟩
    simp
  · simp [e]
end Go.Proofs.Ytclflkgafjgkfaa

namespace Go.Proofs.Ytclflkgafjgkfaa
open Go Go.Am
set_option linter.unusedSimpArgs false

theorem rd_list {α : Type} {enc : α → AVal} {ag : Bool} {by_ : Nat} {e : List CTy} {x : AVal} (h : RdA (false, [.sl ag by_ e]) x) (hd : ∀ y cs, (if ag = true then y = .agg cs else cs = [y]) → Rds e cs → ∃ a, y = enc a) :
    ∃ l : List α, x = .sl e.length (l.map enc) .sh ∧ l.length * by_ ≤ reachBytes := by
  obtain ⟨cs, h1, h2⟩ := h
  simp only [Rds, Rd] at h2
  obtain ⟨y, r, rfl, ⟨xs, rfl, hl, hx⟩, rfl⟩ := h2
  simp at h1
  subst h1
  obtain ⟨l, rfl⟩ := decAll (enc := enc) xs fun y hy => by
    obtain ⟨cs, h1, h2⟩ := hx y hy
    exact hd y cs h1 h2
  exact ⟨l, rfl, by simpa using hl⟩
def ty8 : Bool × List CTy := (false, [.sl false 1 [.int .u8]])
theorem rd_8 {x : AVal} (h : RdA ty8 x) : ∃ b : List Int, x = encBs b ∧ isB b ∧ b.length < 281474976710656 := by
  obtain ⟨l, rfl, hl⟩ := rd_list (α := { x : Int // 0 ≤ x ∧ x ≤ 255 }) (enc := fun x => .int .u8 x.1) h fun y cs h1 h2 => by
    obtain ⟨n, r, rfl, h3, h4⟩ := Rds_int h2
    obtain rfl := Rds_nil h3
    have hw : 0 ≤ n ∧ n ≤ 255 := by simpa [Lit.wf, IntKind.min, IntKind.max, IntKind.signed, IntKind.bits] using h4
    simp at h1
    exact ⟨⟨n, hw⟩, h1.symm⟩
  refine ⟨l.map Subtype.val, ?_, ?_, ?_⟩
  · simp [Function.comp_def]
  · intro x hx
    obtain ⟨y, _, rfl⟩ := List.mem_map.1 hx
    exact y.2
  · have : reachBytes < 281474976710656 := by decide
    simp at hl ⊢
    omega

set_option maxHeartbeats 4000000 in
set_option maxRecDepth 10000 in
theorem c9 (h : Hdr) (hw : inW h.ID) (b : List Int) (hb : isB b) (hlen : b.length < 281474976710656) : CFun Try.prog 9 [encH h, encBs b] [] (.bool true) [] := by
  refine CFun.intro (tr := []) (fz := []) (n := 63) (rs := [.tmp 4]) Try.func9 rfl (by kernel_rfl) rfl rfl mixed (by kernel_rfl) (by simp) (by simp) ?_
  have h33 := fun H => (c33 h).up' H rfl rfl
  have h34 := fun H => (c34 h hw).up' H rfl rfl
  have h35 := fun H => (c35 h).up' H rfl rfl
  have h36 := fun H => (c36 b hb hlen).up' H rfl rfl
  have h37 := fun H => (c37 b hb hlen).up' H rfl rfl
  have h15 := fun H => c15.up' H rfl rfl
  have h23 := fun H => (c23 (hdrB h) (hdrB h) (isB_hdrB h) (isB_hdrB h)).up' H rfl rfl
  rw [beq_self_eq_true] at h23
  generalize decH b = d at h36 h37
  unfold ehL at h33
  by_cases e : chkH h = 0
  · rw [e] at h34
    rw [if_neg (by simp [e])] at h33
    simp
    refine ⟨_, _, .inl (h33 _), by simp, ?_⟩
    simp
    refine ⟨_, _, .inl (h34 _), by simp, ?_⟩
    simp
    refine ⟨_, _, .inl (h35 _), by simp, ?_⟩
    simp
    refine ⟨_, _, .inl (by simpa using h23 _), by simp, ?_⟩
    simp
    refine ⟨_, _, .inl (h36 _), by simp, ?_⟩
    simp
    refine ⟨_, _, .inl (h37 _), by simp, ?_⟩
    simp
    refine ⟨_, _, .inl (h15 _), by simp, ?_⟩
    simp
  · rw [if_pos (by simp [e])] at h33
    simp
    refine ⟨_, _, .inl (by simpa using h33 _), by simp, ?_⟩
    simp
    refine ⟨_, _, .inl (h34 _), by simp, ?_⟩
    simp [e]
    refine ⟨_, _, .inl (h36 _), by simp, ?_⟩
    simp
    refine ⟨_, _, .inl (h37 _), by simp, ?_⟩
    simp
    refine ⟨_, _, .inl (h15 _), by simp, ?_⟩
    simp
end Go.Proofs.Ytclflkgafjgkfaa
