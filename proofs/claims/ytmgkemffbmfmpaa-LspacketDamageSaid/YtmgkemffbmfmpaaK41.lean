import Derived.Test.YtmgkemffbmfmpaaK38
set_option linter.unusedSimpArgs false
set_option linter.unusedVariables false
namespace Go.Proofs.Ytmgkemffbmfmpaa
open Go Go.Am

theorem okPq_of {p : Pkt} (h : okPw p) (hk : ∀ k ∈ p.Keys, inW k.ID ∧ inW k.Router) : okPq p :=
  ⟨h.router, h.area, h.addr, h.edr, h.ebdr, h.eseen, fun x hx => ⟨(h.hs x hx).2.1, (h.hs x hx).2.2.2.1⟩, hk, fun x hx => (h.ls x hx).1⟩
theorem okS_of {p : Pkt} (h : okPw p) : okS p := by
  have h1 := h.sz2
  have h2 := h.sz3
  exact ⟨h.ok.seen, by omega, h.ok.lsas, by omega, h.ok.oka⟩
theorem encB_size {p : Pkt} (h : chkP p = 0) : (encB p).length ≤ 61000 := by
  have := bodyP_len h
  rw [encB, frame_len]
  omega
/-- What is decoded is in order. -/
theorem decP_okPk {b : List Int} (hb : isB b) (h : (decP b).2 = 0) : okPk (decP b).1 := by
  obtain ⟨_, _, e⟩ := decP_ok hb h
  have e1 : (readP b).2.2 = 0 := by
    have hf := decP_front h
    unfold decP at h
    rw [if_neg (by simp [hf])] at h
    by_cases e1 : (readP b).2.2 = 0
    · exact e1
    · rw [if_pos e1] at h; exact (e1 h).elim
  rw [e]
  exact (rdP_ok (isB_drop hb 18) e1).1
-- LspacketBack
set_option maxHeartbeats 4000000 in
set_option maxRecDepth 10000 in
theorem g14 (p : Pkt) (ok : okPk p) (okq : okPq p) (oks : okS p) (b : List Int) (hb : isB b) (hlen : b.length ≤ 140737488355327) : CFun Try.prog 14 [encPk p, encBs b] [] (.bool true) [] := by
  refine CFun.intro (tr := []) (fz := []) (n := 61) (rs := [.tmp 4]) Try.func14 rfl (by kernel_rfl) rfl rfl mixed (by kernel_rfl) (by simp) (by simp) ?_
  have h16 := fun H => (f16 p ok).up' H rfl rfl
  have h19 := fun H => (f19 p ok).up' H rfl rfl
  have h18 := fun H => f18.up' H rfl rfl
  have h23 := fun H => (f23 p p oks).up' H rfl rfl
  have h50 := fun H => (f50 b hb hlen).up' H rfl rfl
  rw [sameP_refl] at h23
  unfold encQ at h19
  have hq := decP_ok hb
  have hqk := decP_okPk hb
  have h20 := fun H => (c23 b b hb hb).up' H rfl rfl
  rw [show (b == b) = true by simp] at h20
  have hq2 : (decP b).2 = 0 → ∀ H, CFun Try.prog 19 [encPk (decP b).1] H (.tup [encBs b, .int .i64 0]) H := fun e H => by
    obtain ⟨q1, q2, _⟩ := hq e
    have := (f19 (decP b).1 (hqk e)).up' H rfl rfl
    unfold encQ at this
    rw [if_neg (by simp [q1]), q2] at this
    exact this
  clear hq hqk
  generalize decP b = d at *
  by_cases hc : chkP p = 0
  · obtain ⟨_, hd⟩ := decP_encB okq hc
    have h50p := fun H => (f50 (encB p) (isB_frame p) (by have := encB_size hc; omega)).up' H rfl rfl
    rw [hd] at h50p
    rw [if_neg (by simp [hc])] at h19
    rw [hc] at h16
    generalize encB p = B at *
    simp
    refine ⟨_, _, .inl (by simpa using h16 _), by simp, ?_⟩
    simp
    refine ⟨_, _, .inl (by simpa using h19 _), by simp, ?_⟩
    simp
    refine ⟨_, _, .inl (by simpa using h50p _), by simp, ?_⟩
    simp
    refine ⟨_, _, .inl (by simpa using h23 _), by simp, ?_⟩
    simp
    refine ⟨_, _, .inl (by simpa using h50 _), by simp, ?_⟩
    by_cases e : d.2 = 0
    · simp [e]
      refine ⟨_, _, .inl (by simpa using hq2 e _), by simp, ?_⟩
      simp
      refine ⟨_, _, .inl (by simpa using h20 _), by simp, ?_⟩
      simp
      refine ⟨_, _, .inl (by simpa using h18 _), by simp, ?_⟩
      simp
    · simp [e]
      refine ⟨_, _, .inl (by simpa using h18 _), by simp, ?_⟩
      simp
  · generalize chkP p = v at *
    simp
    refine ⟨_, _, .inl (by simpa using h16 _), by simp, ?_⟩
    simp [hc]
    refine ⟨_, _, .inl (by simpa using h50 _), by simp, ?_⟩
    by_cases e : d.2 = 0
    · simp [e]
      refine ⟨_, _, .inl (by simpa using hq2 e _), by simp, ?_⟩
      simp
      refine ⟨_, _, .inl (by simpa using h20 _), by simp, ?_⟩
      simp
      refine ⟨_, _, .inl (by simpa using h18 _), by simp, ?_⟩
      simp
    · simp [e]
      refine ⟨_, _, .inl (by simpa using h18 _), by simp, ?_⟩
      simp
end Go.Proofs.Ytmgkemffbmfmpaa

namespace Go.Proofs.Ytmgkemffbmfmpaa
open Go Go.Am

-- LspacketDamage
set_option maxHeartbeats 8000000 in
set_option maxRecDepth 10000 in
theorem g15 (p : Pkt) (ok : okPk p) (okq : okPq p) (at_ x : Int) (hat : inI at_) (hx : 0 ≤ x ∧ x ≤ 255) : CFun Try.prog 15 [encPk p, .int .i64 at_, .int .u8 x] [] (.bool true) [] := by
  refine CFun.intro (tr := [100050, 12000011000004]) (fz := []) (n := 65) (rs := [.tmp 6]) Try.func15 rfl (by kernel_rfl) rfl rfl mixed (by kernel_rfl) (by simp) (by simp) ?_
  have h19 := fun H => (f19 p ok).up' H rfl rfl
  have h18 := fun H => f18.up' H rfl rfl
  unfold encQ at h19
  by_cases hc : chkP p = 0
  case neg =>
    rw [if_pos hc] at h19
    generalize chkP p = v at *
    simp
    refine ⟨_, _, .inl (by simpa using h19 _), by simp, ?_⟩
    simp [hc]
    refine ⟨_, _, .inl (by simpa using h18 _), by simp, ?_⟩
    simp
  rw [if_neg (by simp [hc])] at h19
  obtain ⟨hf, _⟩ := decP_encB okq hc
  have hB : isB (encB p) := isB_frame p
  have hlen : (encB p).length ≤ 61000 := encB_size hc
  have hcut := fun k (h : k < (encB p).length) => decP_cut hf h
  have hchg := fun k (h : k < (encB p).length) hne => decP_changed hB hf h hx hne
  clear hf
  generalize encB p = b at *
  obtain ⟨n, hn⟩ : ∃ n, b.length = n := ⟨_, rfl⟩
  have hcn : (b.length : Int) = n := by omega
  by_cases a1 : at_ < 0
  · simp
    refine ⟨_, _, .inl (by simpa using h19 _), by simp, ?_⟩
    simp [a1]
    refine ⟨_, _, .inl (by simpa using h18 _), by simp, ?_⟩
    simp
  by_cases a2 : (n : Int) ≤ at_
  · simp
    refine ⟨_, _, .inl (by simpa using h19 _), by simp, ?_⟩
    simp [a1, hcn, a2]
    refine ⟨_, _, .inl (by simpa using h18 _), by simp, ?_⟩
    simp
  obtain ⟨k, rfl⟩ : ∃ k : Nat, at_ = k := ⟨at_.toNat, by omega⟩
  have a3 : k < n := by omega
  have a3' : (k : Int) < n := by omega
  have a4 : k ≤ n := by omega
  have a4' : (k : Int) ≤ n := by omega
  obtain ⟨y, hy⟩ : ∃ y, b[k]? = some y := ⟨b[k], List.getElem?_eq_getElem (by omega)⟩
  have hgd : b.getD k 0 = y := by rw [List.getD_eq_getElem?_getD, hy]; rfl
  obtain ⟨_, gk⟩ := List.getElem?_eq_some_iff.1 hy
  have hk := hcut k (by omega)
  have hk2 := hchg k (by omega)
  rw [hgd] at hk2
  have h50 := fun H => (f50 (b.take k) (isB_take hB k) (by simp; omega)).up' H rfl rfl
  have h50c := fun H => (f50 (b.set k x) (isB_set hB k hx) (by simp; omega)).up' H rfl rfl
  have hcl : (b.set k x).length = n := by simp [hn]
  have q1 : n ≤ 140737488355328 := by omega
  have q2 : 0 < n := by omega
  have q3 : k + 1 ≤ n := by omega
  have hch := chunk8 (b.set k x) n hcl
  have htr := tree8 (b.set k x)
  have htk : ((b.set k x).map enc8).take n = (b.set k x).map enc8 := List.take_of_length_le (by simp [hn])
  generalize decP (b.take k) = d at h50 hk
  generalize decP (b.set k x) = d2 at h50c hk2
  clear hcut hchg hat
  simp
  refine ⟨_, _, .inl (by simpa using h19 _), by simp, ?_⟩
  simp [a1, hcn, a2, hn, a4, a4', ← List.map_take]
  refine ⟨_, _, .inl (by simpa using h50 _), by simp, ?_⟩
  simp [hk]
  by_cases e1 : y = x
  · subst e1
    simp [hn, a3, a3', q3, hy, gk]
    refine ⟨_, _, .inl (by simpa using h18 _), by simp, ?_⟩
    simp
  have hbad := hk2 e1
  have b1 : (y == x) = false := by simpa using e1
  simp [hn, a3, a3', q3, hy, gk, b1]
  simp [hy, gk, hn, q1, q2, q3, a3, a3', cells8, dis8, set8, hch, htr, htk, hcl, -enc8, -List.map_set, -List.all_eq_true, -List.map_map]
  refine ⟨_, _, .inl (by simpa [cargs] using h50c _), by simp, ?_⟩
  simp [hbad]
  refine ⟨_, _, .inl (by simpa using h18 _), by simp, ?_⟩
  simp
end Go.Proofs.Ytmgkemffbmfmpaa
