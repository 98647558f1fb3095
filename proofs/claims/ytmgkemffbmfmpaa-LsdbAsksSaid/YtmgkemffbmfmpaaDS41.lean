import Derived.Test.YtmgkemffbmfmpaaDS36
set_option linter.unusedSimpArgs false
set_option linter.unusedVariables false
namespace Go.Proofs.Ytmgkemffbmfmpaa
open Go Go.Am
set_option linter.unusedSimpArgs false

theorem enc_sub (b : List Int) (n : Nat) : ((b.map enc8).take n).drop 20 = ((b.take n).drop 20).map enc8 := by
  rw [List.map_drop, List.map_take]

set_option maxHeartbeats 4000000 in
set_option maxRecDepth 10000 in
theorem c38 (b : List Int) (hb : isB b) (hlen : b.length < 281474976710656) : CFun Try.prog 160 [encBs b] [] (.tup [encA (decL b).1, .int .i64 (decL b).2.1, .int .i64 (decL b).2.2]) [] := by
  refine CFun.intro (tr := []) (fz := []) (n := 58) (rs := [.cell 2 46, .tmp 3, .tmp 4]) Try.func160 rfl (by kernel_rfl) rfl rfl mixed (by kernel_rfl) (by simp) (by simp) ?_
  obtain ⟨m, hm⟩ : ∃ m, b.length = m := ⟨_, rfl⟩
  have hc : (b.length : Int) = m := by omega
  by_cases d1 : m < 20
  · have d1' : (m : Int) < 20 := by omega
    simp [hc, d1', decL, hm, d1, lsa0]
  have d1' : ¬ (m : Int) < 20 := by omega
  have h71 : ∀ {H : List (List AVal)}, H[1]? = some (cellsR b 0 false) → CFun Try.prog 172 [.ptr 1 0] H (encH (hdrAt b)) (H.set 1 (rdC b 18)) := fun hid => by
    have := (c71 b hb (by omega) (by omega)).at hid rfl rfl rfl rfl
    have e : rdC b 18 = cellsR b 18 false := by simp [rdC, show 18 ≤ b.length by omega]
    rw [e]; exact this
  have hn := numAt_in hb 18 2
  obtain ⟨k, hk⟩ : ∃ k : Nat, numAt b 18 2 = k := ⟨(numAt b 18 2).toNat, by omega⟩
  have hz : numZ b 18 2 = k := by rw [numZ_of (by omega), hk]
  have w0 : IntKind.i64.wrap (k : Int) = k := wrap_in (by omega)
  have w1 : IntKind.i64.wrap (20 + (k : Int)) = 20 + k := wrap_in (by omega)
  have h44 := fun n lo hi H => (c44 n lo hi).up' H rfl rfl
  have hB : bodyAt b = (b.take (20 + k)).drop 20 := by rw [bodyAt, hk, Int.toNat_natCast]
  have hBb : isB (bodyAt b) := isB_bodyAt hb
  have hBl : (bodyAt b).length < 281474976710656 := by rw [hB]; simp; omega
  have h74 : ∀ {H : List (List AVal)}, H[2]? = some (cellsZ (hdrAt b)) → CFun Try.prog 174 [.ptr 2 0, encBs (bodyAt b)] H (.bool (formB (hdrAt b) (bodyAt b))) (H.set 2 (cellsA (bodyR (hdrAt b) (bodyAt b)))) := fun hid => (c74 (hdrAt b) (bodyAt b) hBb hBl).at hid rfl rfl rfl rfl
  have hD : decL b = if inR (hdrAt b).Ty 1 5 = false then (lsa0, 0, 15) else
    if m < 20 + k then (lsa0, 0, 3) else
    if formB (hdrAt b) (bodyAt b) = false then (lsa0, 0, 2) else
    if chkA (bodyR (hdrAt b) (bodyAt b)) ≠ 0 then (lsa0, 0, chkA (bodyR (hdrAt b) (bodyAt b))) else
    if (bodyR (hdrAt b) (bodyAt b)).H.Sum ≠ sumA (bodyR (hdrAt b) (bodyAt b)) then (lsa0, 0, 13) else
    (bodyR (hdrAt b) (bodyAt b), 20 + k, 0) := by rw [decL, hm, if_neg d1, hk, Int.toNat_natCast]
  rw [hD]
  have hL : chkA (bodyR (hdrAt b) (bodyAt b)) = 0 → (bodyR (hdrAt b) (bodyAt b)).Links.length ≤ 64 ∧ (bodyR (hdrAt b) (bodyAt b)).Att.length ≤ 64 := chkA_len
  have h13 := fun H => (c13 (bodyR (hdrAt b) (bodyAt b))).up' H rfl rfl
  have h54 := fun h1 h2 H => (c54 (bodyR (hdrAt b) (bodyAt b)) h1 h2).up' H rfl rfl
  have hbH : (bodyR (hdrAt b) (bodyAt b)).H = hdrAt b := bodyR_H _ _
  generalize formB (hdrAt b) (bodyAt b) = fo at h74 ⊢
  generalize bodyR (hdrAt b) (bodyAt b) = l at h74 h13 h54 hL hbH ⊢
  simp [hc, d1']
  refine ⟨_, _, .inl (h71 (by rfl)), by simp, ?_⟩
  simp
  refine ⟨_, _, .inl (n73 (b := b) (at_ := 18) 2 (by simp) hb (by omega) (by omega) (by omega)), by simp, ?_⟩
  rw [hz]
  simp [w0, w1]
  refine ⟨_, _, .inl (h44 _ _ _ _), by simp, ?_⟩
  by_cases d2 : inR (hdrAt b).Ty 1 5 = false
  · simp [d2, lsa0]
  have d2' : inR (hdrAt b).Ty 1 5 = true := by simpa using d2
  by_cases d3 : m < 20 + k
  · have d3' : (m : Int) < 20 + k := by omega
    simp [d2', hc, d3', d3, lsa0]
  have d3' : ¬ (m : Int) < 20 + k := by omega
  have d4 : (20 : Int) ≤ 20 + k := by omega
  have d5 : 20 + k ≤ m := by omega
  have d6 : (20 : Int) + k ≤ m := by omega
  have d7 : ((20 : Int) + k).toNat = 20 + k := by omega
  have d8 : (0 : Int) ≤ 20 + k := by omega
  have hs := enc_sub b (20 + k)
  rw [← hB] at hs
  simp [d2', hc, hm, d3', d3, d4, d5, d6, d7, d8, hs, -List.map_take, -List.map_drop]
  refine ⟨_, _, .inl (h74 (by rfl)), by simp, ?_⟩
  cases fo with
  | false => simp [lsa0]
  | true =>
    simp
    refine ⟨_, _, .inl (h13 _), by simp, ?_⟩
    by_cases d9 : chkA l = 0
    · obtain ⟨l1, l2⟩ := hL d9
      simp [d9]
      refine ⟨_, _, .inl (h54 l1 l2 _), by simp, ?_⟩
      by_cases e9 : l.H.Sum = sumA l
      · simp [e9]
      · simp [e9, lsa0]
    · simp [d9, lsa0]

end Go.Proofs.Ytmgkemffbmfmpaa

namespace Go.Proofs.Ytmgkemffbmfmpaa
open Go Go.Am
set_option linter.unusedSimpArgs false

end Go.Proofs.Ytmgkemffbmfmpaa

namespace Go.Proofs.Ytmgkemffbmfmpaa
open Go Go.Am
set_option linter.unusedSimpArgs false

/-! What sealing and ageing leave. -/
def withSA (l : Lsa) (y z : Int) : Lsa := { l with H := { l.H with Sum := y, Age := z } }
theorem bodyB_withSA (l : Lsa) (y z : Int) : bodyB (withSA l y z) = bodyB l := by simp [bodyB, withSA]
theorem chkH_iff (h : Hdr) : chkH h = 0 ↔ inR h.Ty 1 5 = true ∧ ¬ (h.Router = 0 ∨ inR h.Seq 1 2147483647 = false ∨ inR h.Age 0 3600 = false ∨ inR h.Sum 0 65535 = false ∨ inR h.Len 0 (if hasP h.Ty = true then 32 else 0) = false) ∧
    ¬ (h.Ty = 1 ∧ h.ID ≠ h.Router) ∧ ¬ ((h.Ty = 3 ∨ h.Ty = 5) ∧ validP h.ID h.Len = false) ∧ ¬ ((h.Ty = 2 ∨ h.Ty = 4) ∧ h.ID = 0) := by
  unfold chkH
  by_cases a1 : inR h.Ty 1 5 = false
  · rw [if_pos a1]; simp [a1]
  rw [if_neg a1]
  have b1 : inR h.Ty 1 5 = true := by simpa using a1
  by_cases a2 : h.Router = 0 ∨ inR h.Seq 1 2147483647 = false ∨ inR h.Age 0 3600 = false ∨ inR h.Sum 0 65535 = false ∨ inR h.Len 0 (if hasP h.Ty = true then 32 else 0) = false
  · rw [if_pos a2]; constructor
    · intro h; cases h
    · intro h; exact (h.2.1 a2).elim
  rw [if_neg a2]
  by_cases a3 : h.Ty = 1 ∧ h.ID ≠ h.Router
  · rw [if_pos a3]; constructor
    · intro h; cases h
    · intro h; exact (h.2.2.1 a3).elim
  rw [if_neg a3]
  by_cases a4 : (h.Ty = 3 ∨ h.Ty = 5) ∧ validP h.ID h.Len = false
  · rw [if_pos a4]; constructor
    · intro h; cases h
    · intro h; exact (h.2.2.2.1 a4).elim
  rw [if_neg a4]
  by_cases a5 : (h.Ty = 2 ∨ h.Ty = 4) ∧ h.ID = 0
  · rw [if_pos a5]; constructor
    · intro h; cases h
    · intro h; exact (h.2.2.2.2 a5).elim
  · rw [if_neg a5]
    exact ⟨fun _ => ⟨b1, a2, a3, a4, a5⟩, fun _ => rfl⟩
theorem chkA_withSA {l : Lsa} {y z : Int} (hc : chkA l = 0) (hy : 0 ≤ y ∧ y ≤ 65535) (hz : 0 ≤ z ∧ z ≤ 3600) : chkA (withSA l y z) = 0 := by
  obtain ⟨c1, c2, c3, c4⟩ := chkA_parts hc
  obtain ⟨_, _, _, f3, f4, _⟩ := chkH_ok c1
  have e1 : inR l.H.Age 0 3600 = true := (inR_iff _ _ _).2 f3
  have e2 : inR l.H.Sum 0 65535 = true := (inR_iff _ _ _).2 f4
  have e3 : inR z 0 3600 = true := (inR_iff _ _ _).2 hz
  have e4 : inR y 0 65535 = true := (inR_iff _ _ _).2 hy
  have hH : chkH (withSA l y z).H = 0 := by
    rw [chkH_iff] at c1 ⊢
    obtain ⟨g1, g2, g3⟩ := c1
    refine ⟨g1, ?_, g3⟩
    intro hh
    refine g2 ?_
    rcases hh with h | h | h | h | h
    · exact .inl h
    · exact .inr (.inl h)
    · rw [show (withSA l y z).H.Age = z from rfl, e3] at h; cases h
    · rw [show (withSA l y z).H.Sum = y from rfl, e4] at h; cases h
    · exact .inr (.inr (.inr (.inr h)))
  unfold chkA at hc ⊢
  rw [if_neg (by simp [hH])]
  rw [if_neg (by simp [c1])] at hc
  exact hc
theorem sumsL_app (n : Int) (sk : Int) : ∀ (a b : List Int) (i : Nat) (s : Int × Int), sumsL n sk (a ++ b) i s = sumsL n sk b (i + a.length) (sumsL n sk a i s) := by
  intro a
  induction a with
  | nil => intro b i s; rfl
  | cons x a ih => intro b i s; simp only [List.cons_append, sumsL, List.length_cons]; rw [ih, show i + 1 + a.length = i + (a.length + 1) by omega]
theorem fletch_skip (p q x y : List Int) (hp : p.length = 14) (hx : x.length = 2) (hy : y.length = 2) (hq : q.length < 1000000) : fletch (p ++ (x ++ q)) 14 = fletch (p ++ (y ++ q)) 14 := by
  have key : ∀ z : List Int, z.length = 2 → ∀ (n : Int) (s : Int × Int), sumsL n 14 z 14 s = s := by
    intro z hz n s
    match z, hz with
    | [a, b], _ =>
      have w : IntKind.i64.wrap (14 + 1) = 15 := by decide
      simp only [sumsL, sumStep, w]
      rw [if_pos ⟨by decide, .inr (by decide)⟩, if_pos ⟨by decide, .inl (by decide)⟩]
  have hl : (p ++ (x ++ q)).length = (p ++ (y ++ q)).length := by simp [hx, hy]
  have hs : ∀ n : Int, sumsL n 14 (p ++ (x ++ q)) 0 (0, 0) = sumsL n 14 (p ++ (y ++ q)) 0 (0, 0) := by
    intro n
    rw [sumsL_app, sumsL_app, sumsL_app, sumsL_app, hp, Nat.zero_add, key x hx, key y hy, hx, hy]
  unfold fletch
  rw [hl, hs]
def hdrP (h : Hdr) : List Int := numB 1 (U h.Ty) ++ numB 1 (U h.Len) ++ numB 4 (U h.ID) ++ numB 4 (U h.Router) ++ numB 4 (U h.Seq)
theorem bytesA_split (l : Lsa) : (bytesA l).drop 2 = hdrP l.H ++ (numB 2 (U l.H.Sum) ++ (numB 2 (U (bodyB l).length) ++ bodyB l)) := by
  have e : bytesA l = numB 2 (U l.H.Age) ++ (hdrP l.H ++ (numB 2 (U l.H.Sum) ++ (numB 2 (U (bodyB l).length) ++ bodyB l))) := by simp [bytesA, hdrB, hdrP, List.append_assoc]
  rw [e, List.drop_append_of_le_length (by simp [numB_len]), List.drop_of_length_le (by simp [numB_len]), List.nil_append]
theorem sumA_withSA (l : Lsa) (hl : l.Links.length ≤ 64) (ha : l.Att.length ≤ 64) (y z : Int) : sumA (withSA l y z) = sumA l := by
  have := bodyB_len l hl ha
  unfold sumA
  rw [bytesA_split, bytesA_split, bodyB_withSA]
  exact congrArg Prod.fst (fletch_skip (hdrP l.H) (numB 2 (U (bodyB l).length) ++ bodyB l) _ _ (by simp [hdrP, numB_len]) (numB_len _ _) (numB_len _ _) (by simp [numB_len]; omega))
theorem sumA_in (l : Lsa) (hl : l.Links.length ≤ 64) (ha : l.Att.length ≤ 64) : 0 ≤ sumA l ∧ sumA l ≤ 65535 := by
  have hlen := bytesA_len l hl ha
  have hlo : 20 ≤ (bytesA l).length := by simp only [bytesA, List.length_append, hdrB_len, numB_len]; omega
  have hf := fletch_plain (b := (bytesA l).drop 2) (isB_drop (isB_bytesA l) 2) (by simp; omega) 14 (by simp; omega) _ _ _ rfl rfl rfl
  unfold sumA
  rw [show (14 : Int) = ((14 : Nat) : Int) from rfl, hf]
  simp only
  generalize (sumsL ((bytesA l).drop 2).length ((14 : Nat) : Int) ((bytesA l).drop 2) 0 (0, 0)).1 = s0
  generalize (sumsL ((bytesA l).drop 2).length ((14 : Nat) : Int) ((bytesA l).drop 2) 0 (0, 0)).2 = s1
  generalize (((((bytesA l).drop 2).length : Int) - ((14 : Nat) : Int) - 1) % 255 * s0 - s1 - 1) = e
  have := Int.emod_nonneg e (show (255 : Int) ≠ 0 by decide)
  have := Int.emod_lt_of_pos e (show (0 : Int) < 255 by decide)
  generalize e % 255 = r at *
  omega
theorem sealA_eq (l : Lsa) : sealA l = withSA l (sumA l) l.H.Age := rfl
theorem okA_withSA {l : Lsa} (ok : okA l) {y z : Int} (hy : inI y) (hz : inI z) : okA (withSA l y z) := by
  obtain ⟨⟨h1, h2, h3, h4, h5, h6, h7⟩, rest⟩ := ok
  exact ⟨⟨h1, h2, h3, h4, h5, hz, hy⟩, rest⟩
/-- A valid advertisement, sealed and of another age, is valid and sealed. -/
theorem sealed_age {l : Lsa} (ok : okA l) (hc : chkA l = 0) {z : Int} (hz : 0 ≤ z ∧ z ≤ 3600) : okA (withSA l (sumA l) z) ∧ chkA (withSA l (sumA l) z) = 0 ∧ (withSA l (sumA l) z).H.Sum = sumA (withSA l (sumA l) z) := by
  obtain ⟨hl, ha⟩ := chkA_len hc
  have hs := sumA_in l hl ha
  exact ⟨okA_withSA ok (by unfold inI; omega) (by unfold inI; omega), chkA_withSA hc hs hz, (sumA_withSA l hl ha _ _).symm⟩
theorem sealed_seal {l : Lsa} (ok : okA l) (hc : chkA l = 0) : okA (sealA l) ∧ chkA (sealA l) = 0 ∧ (sealA l).H.Sum = sumA (sealA l) := by
  obtain ⟨_, _, _, f3, _⟩ := chkH_ok (chkA_parts hc).1
  exact sealed_age ok hc f3
theorem encL_sealed {s : Lsa} (hc : chkA s = 0) (hs : s.H.Sum = sumA s) : encL s = (bytesA s, 0) := by
  rw [encL, if_neg (by simp [hc]), if_neg (by simp [← hs])]
theorem decL_len (b : List Int) (hb : isB b) : (decL b).1.Links.length < 8796093022208 ∧ (decL b).1.Att.length < 140737488355328 := by
  by_cases h : (decL b).2.2 = 0
  · obtain ⟨_, _, _, _, _, _, e⟩ := decL_ok hb h
    rw [e]
    obtain ⟨_, _, _, _, _, _, o1, o2⟩ := okA_bodyR (okH_hdrAt b) (isB_bodyAt hb)
    exact ⟨o1, o2⟩
  · rw [(decL_bad h).1]; simp [lsa0]

def tyI : Bool × List CTy := (false, [.int .i64])
def tyU : Bool × List CTy := (false, [.int .u8])
theorem rd_i {x : AVal} (h : RdA tyI x) : ∃ n : Int, x = .int .i64 n ∧ inI n := by
  obtain ⟨cs, h1, h2⟩ := h
  obtain ⟨n, r, rfl, h3, w⟩ := Rds_int h2
  obtain rfl := Rds_nil h3
  simp [tyI] at h1
  exact ⟨n, h1.symm, wf_i64 w⟩
theorem rd_u {x : AVal} (h : RdA tyU x) : ∃ n : Int, x = .int .u8 n ∧ 0 ≤ n ∧ n ≤ 255 := by
  obtain ⟨cs, h1, h2⟩ := h
  obtain ⟨n, r, rfl, h3, h4⟩ := Rds_int h2
  obtain rfl := Rds_nil h3
  simp [tyU] at h1
  have hw : 0 ≤ n ∧ n ≤ 255 := by simpa [Lit.wf, IntKind.min, IntKind.max, IntKind.signed, IntKind.bits] using h4
  exact ⟨n, h1.symm, hw⟩
theorem rd_8b {x : AVal} (h : RdA ty8 x) : ∃ b : List Int, x = encBs b ∧ isB b ∧ b.length ≤ 140737488351232 := by
  obtain ⟨l, rfl, hl⟩ := rd_list (α := { x : Int // 0 ≤ x ∧ x ≤ 255 }) (enc := fun x => .int .u8 x.1) h fun y cs h1 h2 => by
    obtain ⟨n, r, rfl, h3, h4⟩ := Rds_int h2
    obtain rfl := Rds_nil h3
    have hw : 0 ≤ n ∧ n ≤ 255 := by simpa [Lit.wf, IntKind.min, IntKind.max, IntKind.signed, IntKind.bits] using h4
    simp at h1
    exact ⟨⟨n, hw⟩, h1.symm⟩
  refine ⟨l.map Subtype.val, ?_, ?_, ?_⟩
  · simp [Function.comp_def]
  · intro x hx
    obtain ⟨y, _, rfl⟩ := List.mem_map.1 hx
    exact y.2
  · have : reachBytes = 140737488351232 := by decide
    simp at hl ⊢
    omega

end Go.Proofs.Ytmgkemffbmfmpaa

namespace Go.Proofs.Ytmgkemffbmfmpaa
open Go Go.Am
set_option linter.unusedSimpArgs false

theorem decH_hdrB {h : Hdr} (hc : chkH h = 0) (hw : inW h.ID) (hr : inW h.Router) (rest : List Int) : decH (hdrB h ++ rest) = (h, 0) := by
  unfold decH
  rw [hdrAt_hdrB hc hw hr, if_neg (by simp [hdrB_len]), if_neg (by simp [hc])]

end Go.Proofs.Ytmgkemffbmfmpaa
