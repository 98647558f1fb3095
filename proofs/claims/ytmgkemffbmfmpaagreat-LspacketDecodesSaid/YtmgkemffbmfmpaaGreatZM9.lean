import Derived.Test.YtmgkemffbmfmpaaGreatZK29
import Derived.Test.YtmgkemffbmfmpaaGreatZKP1
set_option linter.unusedSimpArgs false
set_option linter.unusedVariables false
namespace Go.Proofs.YtmgkemffbmfmpaaGreat
open Go Go.Am

end Go.Proofs.YtmgkemffbmfmpaaGreat

namespace Go.Proofs.YtmgkemffbmfmpaaGreat
open Go Go.Am

-- routingref24.Bytes
def p1 : Pkt := { pkt0 with Kind := 5, Router := 1 }
def p2 : Pkt := { pkt0 with Kind := 1, Router := 1, E := ⟨24, 10, 40, 0, 0, 0, [2]⟩ }
theorem okp1 : okPk p1 := ⟨by decide, by decide, by decide, by decide, by decide, by simp [p1, pkt0], by simp [p1, pkt0]⟩
theorem okp2 : okPk p2 := ⟨by decide, by decide, by decide, by decide, by decide, by simp [p2, pkt0], by simp [p2, pkt0]⟩
theorem ep1 : (encQ p1).2 = 0 ∧ (encQ p1).1.length = 19 := by
  have h : chkP p1 = 0 := by decide
  unfold encQ
  rw [if_neg (by simp [h])]
  exact ⟨rfl, by rw [encB, frame_len]; rfl⟩
theorem ep2 : (encQ p2).2 = 0 ∧ (encQ p2).1.length = 37 := by
  have h : chkP p2 = 0 := by decide
  unfold encQ
  rw [if_neg (by simp [h])]
  exact ⟨rfl, by rw [encB, frame_len]; rfl⟩
-- routinglaw24.lives
set_option maxHeartbeats 4000000 in
set_option maxRecDepth 10000 in
theorem f18 : CFun Tryz.prog 7 [] [] (.bool true) [] := by
  refine CFun.intro (tr := []) (fz := []) (n := 33) (rs := [.tmp 0]) Tryz.func7 rfl (by kernel_rfl) rfl rfl mixed (by kernel_rfl) (by simp) (by simp) ?_
  have h1 := fun (cs : List AVal) (hcs : All2 LeC cs (cellsPk p1)) H (hn : (AVal.agg cs).isOwn = false) => ((f19 p1 okp1).wk [.agg cs] (by simp) ⟨hcs, trivial⟩).up' H (by simp [noid, noid0]) rfl
  have h2 := fun (cs : List AVal) (hcs : All2 LeC cs (cellsPk p2)) H (hn : (AVal.agg cs).isOwn = false) => ((f19 p2 okp2).wk [.agg cs] (by simp) ⟨hcs, trivial⟩).up' H (by simp [noid, noid0]) rfl
  obtain ⟨e1, e2⟩ := ep1
  obtain ⟨e3, e4⟩ := ep2
  generalize encQ p1 = q1 at *
  generalize encQ p2 = q2 at *
  simp
  refine ⟨_, _, .inl (h1 _ (by simp [p1, pkt0, hel0, All2, LeC]) _ rfl), by simp, ?_⟩
  simp
  refine ⟨_, _, .inl (h2 _ (by simp [p2, pkt0, hel0, All2, LeC]) _ rfl), by simp, ?_⟩
  simp [e1, e2, e3, e4]

-- LspacketChecks
end Go.Proofs.YtmgkemffbmfmpaaGreat

/- LspacketDecodes. -/
namespace Go.Proofs.YtmgkemffbmfmpaaGreat
open Go Go.Am

theorem decP_okPk {b : List Int} (hb : isB b) (h : (decP b).2 = 0) : okPk (decP b).1 := by
  obtain ⟨_, _, e⟩ := decP_ok hb h
  have e1 : (readP b).2.2 = 0 := by
    have hf := decP_front h
    unfold decP at h
    rw [if_neg (by simp [hf])] at h
    by_cases e1 : (readP b).2.2 = 0
    · exact e1
    · rw [if_pos e1] at h; exact (e1 h).elim
  rw [e]
  exact (rdP_ok (isB_drop hb 18) e1).1
theorem decP_err {b : List Int} (h : (decP b).2 ≠ 0) : (decP b).1 = pkt0 := by
  unfold decP at h ⊢
  by_cases h1 : frontP b = 0
  case neg => rw [if_pos h1]
  rw [if_neg (by simp [h1])] at h ⊢
  by_cases h2 : (readP b).2.2 = 0
  case neg => rw [if_pos h2]
  rw [if_neg (by simp [h2])] at h ⊢
  by_cases h3 : (readP b).2.1 = []
  case neg => rw [if_pos h3]
  rw [if_neg (by simp [h3])] at h ⊢
  by_cases h4 : chkP (readP b).1 = 0
  case neg => rw [if_pos h4]
  rw [if_neg (by simp [h4])] at h
  exact (h rfl).elim
theorem okS_dec {b : List Int} (hb : isB b) : okS (decP b).1 := by
  by_cases h : (decP b).2 = 0
  · obtain ⟨c, _, _⟩ := decP_ok hb h
    have ok := decP_okPk hb h
    obtain ⟨h1, h2, h3, h4, h5, h6, h7⟩ := chkP_ok c
    obtain ⟨f1, f2, f3, f4, f5⟩ := forP_fields h2
    refine ⟨ok.seen, ?_, ok.lsas, ?_, ok.oka⟩
    · by_cases k : (decP b).1.Kind = 3
      · have := (listG_all (h4 k)).1
        omega
      · rw [f3 k]; simp
    · by_cases k : (decP b).1.Kind = 2 ∨ (decP b).1.Kind = 5
      · have := (listG_all (h7 k)).1
        omega
      · rw [f5 (fun e => k (.inl e)) (fun e => k (.inr e))]; simp
  · rw [decP_err h]
    exact ⟨by simp [pkt0, hel0], by simp [pkt0], by simp [pkt0], by simp [pkt0], by simp [pkt0]⟩
theorem sameB_self0 (a : Lsa) : sameB a a = true := by simp [sameB]
theorem eqW_refl0 {α : Type} {r : α → α → Bool} (h : ∀ x, r x x = true) : ∀ a : List α, eqW r a a = true
  | [] => rfl
  | x :: xs => by simp [eqW, h x, eqW_refl0 h xs]
theorem sameL_refl0 (x : Lsa) : sameL x x = true := by
  have := sameB_self0 x
  simp [sameL, this]
theorem sameP_refl0 (p : Pkt) : sameP p p = true := by
  simp [sameP, eqW_refl0 sameL_refl0]
-- LspacketDecodes
set_option maxHeartbeats 4000000 in
set_option maxRecDepth 10000 in
theorem g3 (b : List Int) (hb : isB b) (hlen : b.length ≤ 140737488355327) : CFun Tryz.prog 3 [encBs b] [] (.bool true) [] := by
  refine CFun.intro (tr := []) (fz := []) (n := 28) (rs := [.tmp 2]) Tryz.func3 rfl (by kernel_rfl) rfl rfl mixed (by kernel_rfl) (by simp) (by simp) ?_
  have h1 := fun H => (f50 b hb hlen).up' H rfl rfl
  have h2 := fun H => (dec5 b hb hlen).up' H rfl rfl
  have h3 := fun H => (f23 (decP b).1 (decP b).1 (okS_dec hb)).up' H rfl rfl
  have h4 := fun H => f18.up' H rfl rfl
  rw [sameP_refl0] at h3
  generalize decP b = d at *
  simp
  refine ⟨_, _, .inl (by simpa using h1 _), by simp, ?_⟩
  simp
  refine ⟨_, _, .inl (by simpa using h2 _), by simp, ?_⟩
  simp
  refine ⟨_, _, .inl (by simpa using h3 _), by simp, ?_⟩
  simp
  refine ⟨_, _, .inl (by simpa using h4 _), by simp, ?_⟩
  simp
end Go.Proofs.YtmgkemffbmfmpaaGreat
