/- The cost of a path, by the program. -/
import Derived.Test.YtgcnlmcpmocbhaaC63
set_option linter.unusedSimpArgs false
set_option linter.unusedVariables false
namespace Go.Proofs.Ytgcnlmcpmocbhaa
open Go Go.Am Go.Wk

theorem cost_bd {l : List Lnk} (hl : ∀ x ∈ l, 0 ≤ x.Cost ∧ x.Cost ≤ 65535) (a b : Int) : 0 ≤ (findL l a b).1.Cost ∧ (findL l a b).1.Cost ≤ 65535 := by
  unfold findL
  cases hf : l.find? (isL a b) with
  | none => simp [lnk0]
  | some z => exact hl z (List.mem_of_find?_eq_some hf)
set_option maxHeartbeats 8000000 in
set_option maxRecDepth 10000 in
theorem c20 (l : List Lnk) (k : Nat) (hk : l.length = k) (hk2 : k < 9223372036854775807) (hl : ∀ x ∈ l, 0 ≤ x.Cost ∧ x.Cost ≤ 65535) (p : List Int) (m : Nat) (hm : p.length = m) (hm2 : m < 100000) :
    CFun Try.prog 20 [.sl 13 (l.map encL) .sh, .sl 1 (p.map encI) .sh] [] (.int .i64 (costP l p)) [] := by
  refine CFun.intro (tr := [900001000015]) (fz := []) (n := 34) (rs := [.tmp 4]) Try.func20 rfl (by kernel_rfl) rfl rfl mixed (by kernel_rfl) (by simp) (by simp) ?_
  have h5 := fun a b H => (c39 l k hk hk2 a b).up' H (by simp [noid, noid0]) (by simp [noid, noid0])
  obtain ⟨T, hT⟩ : ∃ T, T = costP l p := ⟨_, rfl⟩
  rw [← hT]
  simp
  refine LoopK.intro (tr := [900001000015]) mixed (by kernel_rfl) (fun s : Nat × Int => [(0, .sl 13 (l.map encL) .sh), (1, .sl 1 (p.map encI) .sh), (5, .int .i64 s.2), (6, .int .i64 (s.1 + 1))]) (fun _ => [])
    (fun s => (s.1 ≤ m ∧ 0 ≤ s.2 ∧ s.2 ≤ 65535 * s.1) ∧ T = s.2 + costP l (p.drop s.1)) (fun s => m - s.1) (0, 0) ?_ ?_ ?_
  · simp [hT]
  · simp
  · rintro ⟨i, sum⟩ ⟨⟨h1, h2, h3⟩, h4⟩
    simp only at h1 h2 h3 h4
    by_cases hi : i + 1 < m
    · obtain ⟨x, hx⟩ : ∃ x, p[i]? = some x := ⟨_, List.getElem?_eq_getElem (by omega)⟩
      obtain ⟨y, hy⟩ : ∃ y, p[i + 1]? = some y := ⟨_, List.getElem?_eq_getElem (by omega)⟩
      have hd : p.drop i = x :: y :: p.drop (i + 1 + 1) := by
        obtain ⟨k1, k2⟩ := List.getElem?_eq_some_iff.1 hx
        obtain ⟨k3, k4⟩ := List.getElem?_eq_some_iff.1 hy
        rw [List.drop_eq_getElem_cons k1, k2, List.drop_eq_getElem_cons k3, k4]
      have hd2 : p.drop (i + 1) = y :: p.drop (i + 1 + 1) := by
        obtain ⟨k3, k4⟩ := List.getElem?_eq_some_iff.1 hy
        rw [List.drop_eq_getElem_cons k3, k4]
      have hc := cost_bd hl x y
      have hf := h5 x y
      have e : T = (sum + (findL l x y).1.Cost) + costP l (p.drop (i + 1)) := by
        rw [h4, hd, hd2]; simp only [costP, costN]; omega
      clear h4 hd hd2
      generalize findL l x y = f at *
      obtain ⟨f, ok⟩ := f
      simp only at hc e
      have w1 : IntKind.i64.wrap ((i : Int) + 1 - 1) = i := by rw [Int.add_sub_cancel]; exact wrap_in (by omega)
      have w2 : IntKind.i64.wrap (sum + f.Cost) = sum + f.Cost := wrap_in (by omega)
      have w3 : IntKind.i64.wrap ((i : Int) + 1 + 1) = (i : Int) + 1 + 1 := wrap_in (by omega)
      have w4 : IntKind.i64.wrap (i : Int) = i := wrap_in (by omega)
      have hi' : (i : Int) + 1 < m := by omega
      have hi2 : i < m := by omega
      have hn : ((i : Int) + 1).toNat = i + 1 := by omega
      simp [hi, hi', hi2, hm, hx, gE hx, hy, gE hy, w1, w4, hn]
      refine ⟨_, by simpa [cargs] using hf [], by simp [noid, noid0, cargs], ?_⟩
      simp [w2, w3]
      exact ⟨i + 1, sum + f.Cost, ⟨⟨by omega, by omega, by omega⟩, e⟩, by omega, by simp⟩
    · have hz : costP l (p.drop i) = 0 := by
        by_cases e : i < m
        · have : (p.drop i).length = 1 := by rw [List.length_drop]; omega
          obtain ⟨a, ha⟩ := List.length_eq_one_iff.1 this
          rw [ha]; rfl
        · rw [List.drop_eq_nil_of_le (by omega)]; rfl
      have hi' : ¬ (i : Int) + 1 < m := by omega
      rw [hz, Int.add_zero] at h4
      simp [hi, hi', hm, h4]
end Go.Proofs.Ytgcnlmcpmocbhaa

/- The law of the best, by the program. -/
namespace Go.Proofs.Ytgcnlmcpmocbhaa
open Go Go.Am Go.Wk

theorem fits_cost {N : Int} {l : List Lnk} {p : List Int} {c : Con} (h : fitsR N l p c = true) : (∀ x ∈ l, 0 ≤ x.Cost ∧ x.Cost ≤ 65535) ∧ p ≠ [] := by
  obtain ⟨g1, g2, _⟩ := fitsR_inv h
  obtain ⟨n1, n2, l2, lk, cn⟩ := check_links g1
  obtain ⟨asc, _, lko⟩ := links_asc lk
  obtain ⟨M, hM⟩ : ∃ M : Nat, N = M := ⟨N.toNat, by omega⟩
  subst hM
  refine ⟨fun x hx => ?_, g2⟩
  obtain ⟨_, _, _, _, o5, o6⟩ := (link_ok (lko x hx)).1
  omega
set_option maxHeartbeats 16000000 in
set_option maxRecDepth 10000 in
theorem c6 (n : Int) (l : List Lnk) (m : Nat) (hm : l.length = m) (hm2 : m < 9223372036854775807) (pa : List Int) (k : Nat) (hk : pa.length = k) (hk2 : k < 9223372036854775807) (c : Con) (p q : Nat) (hp : c.Avoid.length = p) (hq : c.Thru.length = q) (hp2 : p < 9223372036854775807) (hq2 : q < 9223372036854775807) :
    CFun Try.prog 6 [.int .i64 n, .sl 13 (l.map encL) .sh, .sl 1 (pa.map encI) .sh, encC c] [] (.bool true) [] := by
  refine CFun.intro (tr := []) (fz := []) (n := 134) (rs := [.tmp 8]) Try.func6 rfl (by kernel_rfl) rfl rfl mixed (by kernel_rfl) (by simp) (by simp) ?_
  have h11 := fun H => c11.up' H rfl rfl
  by_cases b1 : 30 < n
  · simp [b1]
    refine ⟨_, _, .inl (by simpa using h11 _), by simp, ?_⟩
    simp
  by_cases b2 : 200 < m
  · have b2' : (200 : Int) < m := by omega
    simp [hm, b1, b2, b2']
    refine ⟨_, _, .inl (by simpa using h11 _), by simp, ?_⟩
    simp
  have b2' : ¬ (200 : Int) < m := by omega
  by_cases b3 : 3 < q
  · have b3' : (3 : Int) < q := by omega
    simp [hm, hq, b1, b2, b2', b3, b3']
    refine ⟨_, _, .inl (by simpa using h11 _), by simp, ?_⟩
    simp
  have b3' : ¬ (3 : Int) < q := by omega
  have h19 := fun H => (c19 l m hm hm2 pa k hk hk2 c p q hp hp2 hq hq2 n).up' H (by simp [noid, noid0]) rfl
  by_cases b4 : fitsR n l pa c = true
  case neg =>
    have b4' : fitsR n l pa c = false := by simpa using b4
    rw [b4'] at h19
    simp [hm, hq, b1, b2, b2', b3, b3']
    refine ⟨_, _, .inl (by simpa using h19 _), by simp, ?_⟩
    simp
    refine ⟨_, _, .inl (by simpa using h11 _), by simp, ?_⟩
    simp
  obtain ⟨hcost, hne⟩ := fits_cost b4
  have hk1 : 0 < k := by rw [← hk]; exact List.length_pos_iff.2 hne
  obtain ⟨fr, hfr⟩ : ∃ x, pa[0]? = some x := ⟨_, List.getElem?_eq_getElem (by omega)⟩
  obtain ⟨to, hto⟩ : ∃ x, pa[k - 1]? = some x := ⟨_, List.getElem?_eq_getElem (by omega)⟩
  have hbl := best_law b4 hfr (by rw [hk]; exact hto)
  have hpl : k < 100000 := by
    have := (fitsR_inv b4)
    obtain ⟨g1, g2, g3, g4, _⟩ := this
    obtain ⟨n1, n2, _⟩ := check_links g1
    have hnd : pa.Nodup := by
      cases Classical.em pa.Nodup with
      | inl h => exact h
      | inr h => rw [(repB_iff pa).2 h] at g4; cases g4
    have hl := nodup_length (l := pa.map Int.toNat) (n := n.toNat) (by
      unfold List.Nodup at hnd ⊢
      rw [List.pairwise_map]
      refine hnd.imp_of_mem ?_
      intro a b ha hb h e
      rw [List.any_eq_false] at g3
      have q1 := g3 a ha
      have q2 := g3 b hb
      simp only [outN, Bool.or_eq_true, decide_eq_true_eq] at q1 q2
      omega) (fun x hx => by
      obtain ⟨a, ha, rfl⟩ := List.mem_map.1 hx
      rw [List.any_eq_false] at g3
      have q1 := g3 a ha
      simp only [outN, Bool.or_eq_true, decide_eq_true_eq] at q1
      omega)
    simp only [List.length_map] at hl
    omega
  rw [b4] at h19
  have h15 := fun H => (c15 l m hm hm2 c p q hp hq hp2 hq2 n fr to).up' H (by simp [noid, noid0]) rfl
  have hRl := routeN_len n l fr to c
  generalize routeN n l fr to c = R at *
  obtain ⟨R, x, e⟩ := R
  simp only at hbl hRl
  obtain ⟨r, hr⟩ : ∃ r, R.length = r := ⟨_, rfl⟩
  rw [hr] at hRl
  have w1 : IntKind.i64.wrap ((k : Int) - 1) = ((k - 1 : Nat) : Int) := by
    rw [show ((k - 1 : Nat) : Int) = (k : Int) - 1 by omega]; exact wrap_in (by omega)
  have hk1' : k - 1 < k := by omega
  simp [hm, hq, b1, b2, b2', b3, b3']
  refine ⟨_, _, .inl (by simpa using h19 _), by simp, ?_⟩
  simp [hk, hk1, hk1', hfr, gE hfr, hto, gE hto, w1]
  refine ⟨_, _, .inl (by simpa using h15 _), by simp, ?_⟩
  rcases hbl with ⟨he, ht⟩ | ⟨he, hfit, hx, hle, heq, hR0, hR1⟩
  · subst he
    have ht' : 0 < q := by omega
    simp
    refine ⟨_, _, .inl (by simpa using h11 _), by simp, ?_⟩
    simp [hq, ht']
  subst he
  have hr1 : 0 < r := by
    rw [← hr]; exact (List.getElem?_eq_some_iff.1 hR0).1
  rw [hr] at hR1
  have h20 := fun H => (c20 l m hm hm2 hcost pa k hk hpl).up' H rfl rfl
  have h20R := fun H => (c20 l m hm hm2 hcost R r hr (by omega)).up' H rfl rfl
  have h19R := fun H => (c19 l m hm hm2 R r hr (by omega) c p q hp hp2 hq hq2 n).up' H (by simp [noid, noid0]) rfl
  have h21 := fun H => (c21 R pa r k hr hk (by omega) (by omega)).up' H rfl rfl
  rw [hfit] at h19R
  rw [← hx] at h20R
  rw [hr, hk] at heq
  generalize costP l pa = y at *
  clear hx
  have w2 : IntKind.i64.wrap ((r : Int) - 1) = ((r - 1 : Nat) : Int) := by
    rw [show ((r - 1 : Nat) : Int) = (r : Int) - 1 by omega]; exact wrap_in (by omega)
  have hr2 : r - 1 < r := by omega
  have hle' : ¬ y < x := by omega
  simp
  refine ⟨_, _, .inl (by simpa using h20 _), by simp, ?_⟩
  simp
  refine ⟨_, _, .inl (by simpa using h19R _), by simp, ?_⟩
  simp
  refine ⟨_, _, .inl (by simpa using h20R _), by simp, ?_⟩
  by_cases g : x = y
  · obtain ⟨k1, k2⟩ := heq g
    subst g
    have k1' : ¬ (k : Int) < r := by omega
    by_cases g2 : r = k
    · have k3 := k2 g2
      subst g2
      have k3' : ¬ 0 < cmpI R pa := k3
      generalize cmpI R pa = z at *
      simp [hr, hk, k1']
      refine ⟨_, _, .inl (by simpa using h21 _), by simp, ?_⟩
      simp [k3']
      refine ⟨_, _, .inl (by simpa using h11 _), by simp, ?_⟩
      simp [hr, hk, hr1, hr2, hk1, hk1', hfr, gE hfr, hto, gE hto, hR0, gE hR0, hR1, gE hR1, w1, w2]
    · have g2' : ¬ (r : Int) = k := by omega
      simp [hr, hk, k1', g2, g2']
      refine ⟨_, _, .inl (by simpa using h11 _), by simp, ?_⟩
      simp [hr, hk, hr1, hr2, hk1, hk1', hfr, gE hfr, hto, gE hto, hR0, gE hR0, hR1, gE hR1, w1, w2]
  · simp [hle', g]
    refine ⟨_, _, .inl (by simpa using h11 _), by simp, ?_⟩
    simp [hr, hk, hr1, hr2, hk1, hk1', hfr, gE hfr, hto, gE hto, hR0, gE hR0, hR1, gE hR1, w1, w2]
end Go.Proofs.Ytgcnlmcpmocbhaa
