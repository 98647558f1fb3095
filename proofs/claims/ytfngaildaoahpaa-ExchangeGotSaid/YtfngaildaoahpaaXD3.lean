/- The exchange of databases: what is sent again. -/
import Derived.Test.YtfngaildaoahpaaXC4
import Derived.Test.YtfngaildaoahpaaXC5
set_option linter.unusedSimpArgs false
set_option linter.unusedVariables false
namespace Go.Proofs.Ytfngaildaoahpaa
open Go Go.Am

def idleN (n : Nbr) (now : Int) : Bool := decide (n.Rsd = 0) || (decide (now < n.Rsd) || !waitsN n)
def againN (n : Nbr) (now : Int) : Nbr := if idleN n now = true then n else { n with Rsd := now + 5 }
def againP (n : Nbr) (self now : Int) : List Pkt := if idleN n now = true then [] else if n.State = 5 then [reqN { n with Rsd := now + 5 } self] else [pendN { n with Rsd := now + 5 } self]
-- exchange.Resend
set_option maxHeartbeats 4000000 in
set_option maxRecDepth 10000 in
theorem x26 (n : Nbr) (ok : okN n) (self now : Int) (hw : inI (now + 5)) : CFun Try.prog 26 [encN n, .int .u32 self, .int .i64 now] [] (.tup [encN (againN n now), .sl 18 ((againP n self now).map encPk) .sh]) [] := by
  refine CFun.intro (tr := [900001000031, 900002000031, 2500031, 900001000036, 900002000036, 2500036]) (fz := []) (n := 41) (rs := [.cell 6 26, .tmp 7]) Try.func26 rfl (by kernel_rfl) rfl rfl mixed (by kernel_rfl) (by simp) (by simp) ?_
  have w1 : IntKind.i64.wrap (now + 5) = now + 5 := wrap_in hw
  have k1 := fun H => (x43 n ok.lst ok.sent ok.req ok.una).up' H rfl rfl
  have k2 := fun H => (x59 n).up' H rfl rfl
  have k3 := x60 { n with Rsd := now + 5 } ok.req self
  have k4 := x35 { n with Rsd := now + 5 } ok.sent self
  unfold againN againP idleN
  generalize waitsN n = b at *
  generalize reqN { n with Rsd := now + 5 } self = rq at *
  generalize pendN { n with Rsd := now + 5 } self = pq at *
  simp
  refine ⟨_, _, .inl (by simpa using k1 _), by simp, ?_⟩
  by_cases a1 : n.Rsd = 0
  · simp [a1]
  by_cases a2 : now < n.Rsd
  · simp [a1, a2]
  simp [a1, a2]
  refine ⟨_, _, .inl (by simpa using k2 _), by simp, ?_⟩
  cases b
  · simp
  by_cases a3 : n.State = 5
  · simp [a3, w1]
    refine ⟨_, by simpa [a3] using k3, by simp [noid, noid0], ?_⟩
    simp
  · simp [a3, w1]
    refine ⟨_, by simpa using k4, by simp [noid, noid0], ?_⟩
    simp
-- routingref28.Resend
set_option maxHeartbeats 4000000 in
set_option maxRecDepth 10000 in
theorem x27 (n : Nbr) (ok : okN n) (self now : Int) (hw : inI (now + 5)) : CFun Try.prog 27 [encN n, .int .u32 self, .int .i64 now] [] (.tup [encN (againN n now), .sl 18 ((againP n self now).map encPk) .sh]) [] := by
  refine CFun.intro (tr := [900001000029, 900002000029, 2500029, 900001000034, 900002000034, 2500034]) (fz := []) (n := 39) (rs := [.cell 6 26, .tmp 7]) Try.func27 rfl (by kernel_rfl) rfl rfl mixed (by kernel_rfl) (by simp) (by simp) ?_
  have w1 : IntKind.i64.wrap (now + 5) = now + 5 := wrap_in hw
  have k2 := fun H => (x61 n).up' H rfl rfl
  have k3 := x62 { n with Rsd := now + 5 } ok.req self
  have k4 := x37 { n with Rsd := now + 5 } ok.sent self
  unfold againN againP idleN
  generalize waitsN n = b at *
  generalize reqN { n with Rsd := now + 5 } self = rq at *
  generalize pendN { n with Rsd := now + 5 } self = pq at *
  by_cases a1 : n.Rsd = 0
  · simp [a1]
  by_cases a2 : now < n.Rsd
  · simp [a1, a2]
  simp [a1, a2]
  refine ⟨_, _, .inl (by simpa using k2 _), by simp, ?_⟩
  cases b
  · simp
  by_cases a3 : n.State = 5
  · simp [a3, w1]
    refine ⟨_, by simpa [a3] using k3, by simp [noid, noid0], ?_⟩
    simp
  · simp [a3, w1]
    refine ⟨_, by simpa using k4, by simp [noid, noid0], ?_⟩
    simp
end Go.Proofs.Ytfngaildaoahpaa

/- The law ExchangeGot. -/
namespace Go.Proofs.Ytfngaildaoahpaa
open Go Go.Am

theorem x28a (n : Nbr) (ok : okN n) (h : Hdr) : CFun Try.prog 28 [encN n, encH h] [] (encN (gotN n h)) [] := by
  by_cases hz : n.Req = []
  · exact x28z n ok hz h
  · exact x28 n ok hz h
theorem gotN_len (n : Nbr) (ok : okN n) (h : Hdr) : (gotN n h).Lst.length < 8796093022208 ∧ (gotN n h).Sent.length < 8796093022208 ∧ (gotN n h).Req.length < 8796093022208 ∧ (gotN n h).Una.length < 8796093022208 := by
  have h1 := ok.lst
  have h2 := ok.sent
  have h3 := ok.req
  have h4 := ok.una
  have h5 : (wonH h n.Req).length ≤ n.Req.length := List.length_filter_le _ _
  rw [gotN_eq]
  split <;> exact ⟨by simp only; omega, by simp only; omega, by simp only; omega, by simp only; omega⟩
theorem againN_len (n : Nbr) (ok : okN n) (t : Int) : (againN n t).Lst.length < 8796093022208 ∧ (againN n t).Sent.length < 8796093022208 ∧ (againN n t).Req.length < 8796093022208 ∧ (againN n t).Una.length < 8796093022208 := by
  have h1 := ok.lst
  have h2 := ok.sent
  have h3 := ok.req
  have h4 := ok.una
  unfold againN
  split <;> exact ⟨by first | omega | (simp only; omega), by first | omega | (simp only; omega), by first | omega | (simp only; omega), by first | omega | (simp only; omega)⟩
theorem sameP_noL (p : Pkt) (h : p.Lsas = []) : sameP p p = true := by
  simp [sameP, h, eqW]
theorem againP_ok (n : Nbr) (ok : okN n) (self t : Int) : (∀ p ∈ againP n self t, okS p ∧ sameP p p = true) ∧ (againP n self t).length ≤ 1 := by
  have h2 := ok.sent
  unfold againP
  split
  · exact ⟨fun p hp => (by cases hp), by simp⟩
  split
  · refine ⟨fun p hp => ?_, by simp⟩
    obtain rfl := List.mem_singleton.1 hp
    exact ⟨⟨by simp [reqN, pkt0, hel0], by simp [reqN]; omega, by simp [reqN, pkt0], by simp [reqN, pkt0], by simp [reqN, pkt0]⟩, sameP_noL _ rfl⟩
  · refine ⟨fun p hp => ?_, by simp⟩
    obtain rfl := List.mem_singleton.1 hp
    unfold pendN
    split
    · exact ⟨⟨by simp [pkt0, hel0], by simp [pkt0], by simp [pkt0], by simp [pkt0], by simp [pkt0]⟩, sameP_noL _ rfl⟩
    · exact ⟨⟨by simp [pkt0, hel0], by simp [pkt0], by simp [pkt0], by simp only; omega, by simp [pkt0]⟩, sameP_noL _ rfl⟩
-- routinglaw28.ExchangeGot
set_option maxHeartbeats 8000000 in
set_option maxRecDepth 10000 in
theorem x7 (n : Nbr) (ok : okN n) (h : Hdr) (hh : okH h) (self now : Int) : CFun Try.prog 7 [encN n, encH h, .int .u32 self, .int .i64 now] [] (.bool true) [] := by
  refine CFun.intro (tr := []) (fz := []) (n := 52) (rs := [.tmp 8]) Try.func7 rfl (by kernel_rfl) rfl rfl mixed (by kernel_rfl) (by simp) (by simp) ?_
  have h9 := fun H => x9.up' H rfl rfl
  have l3 := ok.req
  have l4 := ok.una
  have h14 := fun H => (x14 n now (by omega) (by omega)).up' H rfl rfl
  by_cases hf : fineN n now = true
  case neg =>
    have hf' : fineN n now = false := by simpa using hf
    rw [hf'] at h14
    simp
    refine ⟨_, _, .inl (by simpa using h14 _), by simp, ?_⟩
    simp
    refine ⟨_, _, .inl (h9 _), by simp, ?_⟩
    simp
  rw [hf] at h14
  have ha : ascH n.Req := by
    simp only [fineN, Bool.and_eq_true] at hf
    exact ordH_asc hf.2.2.2.2.1
  have hw : inI (now + 5) := by
    simp only [fineN, Bool.and_eq_true, decide_eq_true_eq] at hf
    have := hf.1
    have := hf.2.1
    unfold inI
    omega
  have h26 := fun H => (x26 n ok self now hw).up' H rfl rfl
  have h27 := fun H => (x27 n ok self now hw).up' H rfl rfl
  have h28 := fun H => (x28a n ok h).up' H rfl rfl
  have h29 := fun H => (x29 n ok h hh).up' H rfl rfl
  rw [← gotN_R ha] at h29
  obtain ⟨g1, g2, g3, g4⟩ := gotN_len n ok h
  obtain ⟨r1, r2, r3, r4⟩ := againN_len n ok now
  obtain ⟨p1, p2⟩ := againP_ok n ok self now
  have h12 := fun H => (x12 (gotN n h) g1 g2 g3 g4).up' H rfl rfl
  have h12' := fun H => (x12 (againN n now) r1 r2 r3 r4).up' H rfl rfl
  have h18 := fun H => (x18 (againP n self now) _ rfl (by omega) p1).up' H rfl rfl
  clear g1 g2 g3 g4 r1 r2 r3 r4 p1 p2 hf ha
  generalize gotN n h = gn at *
  generalize againN n now = an at *
  generalize againP n self now = ap at *
  simp
  refine ⟨_, _, .inl (by simpa using h14 _), by simp, ?_⟩
  simp
  refine ⟨_, _, .inl (by simpa using h26 _), by simp, ?_⟩
  simp
  refine ⟨_, _, .inl (by simpa using h27 _), by simp, ?_⟩
  simp
  refine ⟨_, _, .inl (by simpa using h28 _), by simp, ?_⟩
  simp
  refine ⟨_, _, .inl (by simpa using h29 _), by simp, ?_⟩
  simp
  refine ⟨_, _, .inl (by simpa using h12 _), by simp, ?_⟩
  simp
  refine ⟨_, _, .inl (by simpa using h12' _), by simp, ?_⟩
  simp
  refine ⟨_, _, .inl (by simpa using h18 _), by simp, ?_⟩
  simp
  refine ⟨_, _, .inl (h9 _), by simp, ?_⟩
  simp
end Go.Proofs.Ytfngaildaoahpaa
