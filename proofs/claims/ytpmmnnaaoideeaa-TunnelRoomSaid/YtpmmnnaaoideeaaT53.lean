/- The law of Room, by the program. -/
import Derived.Test.YtpmmnnaaoideeaaT9
set_option linter.unusedSimpArgs false
set_option linter.unusedVariables false
namespace Go.Proofs.Ytpmmnnaaoideeaa
open Go Go.Am Go.Wk

set_option maxHeartbeats 4000000 in
set_option maxRecDepth 10000 in
theorem t22f (c : Int) : CFun Try.prog 22 [.int .i64 c] [] (.agg [.int .i64 c, .int .i64 c, .int .i64 c, .int .i64 c, .int .i64 c, .int .i64 c, .int .i64 c, .int .i64 c]) [] := by
  refine CFun.intro (tr := []) (fz := []) (n := 12) (rs := [.cell 2 43]) Try.func22 rfl (by kernel_rfl) rfl rfl mixed (by kernel_rfl) (by simp) (by simp) ?_
  simp
/-- A link that nothing is taken of. -/
def fullL (x : Lnk) : Lnk := { x with Fr := fun _ => x.Cap }
@[simp] def encA (a : Bool × Tun) : AVal := .agg (.bool a.1 :: cellsT a.2)
theorem Inv.sm {n : Int} {l : List Lnk} {ts : List Tun} (h : Inv n l ts) : ∀ t ∈ ts, okTn t ∧ smT t ∧ t.P.length < 1000000 := by
  intro t ht
  have h1 := tunsE_all h.tu t ht
  have h2 := h.pl t ht
  unfold tunE at h1
  by_cases g1 : conE n t.W = 0
  case neg => rw [if_pos g1] at h1; exact absurd h1 g1
  obtain ⟨_, c2, c3, _⟩ := con_ok g1
  exact ⟨⟨by omega, by omega, by omega⟩, ⟨by omega, by omega, by omega⟩, by omega⟩
theorem Inv.fr {n : Int} {l : List Lnk} {ts : List Tun} (h : Inv n l ts) : ∀ x ∈ l, okF x ∧ ∀ k, k < 8 → -1125899906842624 ≤ x.Fr k ∧ x.Fr k ≤ 1125899906842624 := by
  intro x hx
  obtain ⟨n1, n2, l2, lk, cn⟩ := check_links h.ck
  obtain ⟨_, _, lko⟩ := links_asc lk
  have h1 := linkE_cap (lko x hx)
  have h2 := linkE_fr (lko x hx)
  refine ⟨⟨fun k hk => ?_, ?_⟩, fun k hk => ?_⟩
  · have := h2 k hk; unfold inI; omega
  · unfold inI; omega
  · have := h2 k hk; omega
theorem Inv.start {n : Int} {l : List Lnk} (h : checkE n l con0 = 0) : Inv n (l.map fullL) [] := by
  obtain ⟨n1, n2, l2, lk, cn⟩ := check_links h
  obtain ⟨asc, _, lko⟩ := links_asc lk
  refine ⟨?_, rfl, fun i x hx k hk => ?_, by simp⟩
  · have hl : linksE n none (l.map fullL) = 0 := by
      refine links_iff (fun x hx => ?_) (List.pairwise_map.2 asc) (fun q hq => by cases hq)
      obtain ⟨y, hy, rfl⟩ := List.mem_map.1 hx
      have hc := linkE_cap (lko y hy)
      exact linkE_of (lko y hy) rfl rfl rfl rfl (fun k _ => ⟨hc.1, Int.le_refl _⟩) (fun k _ => Int.le_refl _)
    unfold checkE
    rw [if_neg (by omega), if_neg (by rw [List.length_map]; omega), if_neg (by simpa using hl)]
    exact cn
  · rw [List.getElem?_map, Option.map_eq_some_iff] at hx
    obtain ⟨y, hy, rfl⟩ := hx
    simp [totT, fullL]
theorem suN_ids {n : Nat} {l : List Lnk} {ts : List Tun} {w : Tun} (hi : Inv n l ts) (hn : n ≤ 30) (h0 : (suN n l ts w).2.2.2 = 0) (hts : ∀ t ∈ ts, inI t.ID) (hw : inI w.ID) : ∀ t ∈ (suN n l ts w).2.1, inI t.ID := by
  intro t ht
  rcases (suN_law hi hn h0).2.2.2 t ht with e | ⟨u, hu, e⟩
  · rw [e]; exact hw
  · rw [e]; exact hts u hu
theorem tdN_sub {l : List Lnk} {ts : List Tun} {id : Int} : (tdN l ts id).2.1.Sublist ts ∧ ((tdN l ts id).2.2 = 0 → (tdN l ts id).1.length = l.length) := by
  unfold tdN
  split
  · exact ⟨List.nil_sublist _, fun h => by cases h⟩
  · simp only
    by_cases hp : (ts.getD (idT ts id).toNat tun0).P = []
    · simp only [hp, if_true, ne_eq, not_true, if_false]
      exact ⟨List.eraseIdx_sublist _ _, fun _ => by trivial⟩
    · simp only [hp, if_false]
      by_cases g : (relN l (ts.getD (idT ts id).toNat tun0)).2 = 0
      · rw [if_neg (by simpa using g)]
        exact ⟨List.eraseIdx_sublist _ _, fun _ => by rw [(relN_some g).2.2.1, chA_len]⟩
      · rw [if_pos g]
        exact ⟨List.nil_sublist _, fun h => absurd h g⟩
set_option maxHeartbeats 16000000 in
set_option maxRecDepth 10000 in
theorem t7L (n : Int) (l : List Lnk) (k : Nat) (hk : l.length = k) (hk2 : k < 9223372036854775807) (acts : List (Bool × Tun)) (m : Nat) (hm : acts.length = m) (hm2 : m < 9223372036854775807) (has : ∀ a ∈ acts, okT a.2) :
    CFun Try.prog 7 [.int .i64 n, .sl 13 (l.map encL) .sh, .sl 13 (acts.map encA) .sh] [] (.bool true) [] := by
  refine CFun.intro (tr := [50]) (fz := []) (n := 107) (rs := [.tmp 6]) Try.func7 rfl (by kernel_rfl) rfl rfl mixed (by kernel_rfl) (by simp) (by simp) ?_
  have h9 := fun H => t9.up' H rfl rfl
  by_cases b1 : 9 < n
  · simp [b1]
    refine ⟨_, _, .inl (by simpa using h9 _), by simp, ?_⟩
    simp
  by_cases b2 : 40 < k
  · have b2' : (40 : Int) < k := by omega
    simp [b1, hk, b2, b2']
    refine ⟨_, _, .inl (by simpa using h9 _), by simp, ?_⟩
    simp
  have b2' : ¬ (40 : Int) < k := by omega
  by_cases b3 : 12 < m
  · have b3' : (12 : Int) < m := by omega
    simp [b1, hk, b2, b2', hm, b3, b3']
    refine ⟨_, _, .inl (by simpa using h9 _), by simp, ?_⟩
    simp
  have b3' : ¬ (12 : Int) < m := by omega
  have h21 := fun H => ((c13 l k hk (by omega) con0 n 0 0 rfl rfl (by decide) (by decide)).up' H (by simp [noid, noid0, con0]) rfl).wk [.int .i64 n, .sl 13 (l.map encL) .sh, .agg [.int .i64 0, .int .i64 0, .int .i64 0, .int .u32 0, .int .u32 0, .int .i64 0, .sl 0 [] .full, .sl 0 [] .full]] (by simp [noid, noid0]) ⟨LeS_refl _, LeS_refl _, by simp [con0, LeS, LeC], trivial⟩
  by_cases b4 : checkE n l con0 = 0
  case neg =>
    generalize checkE n l con0 = e at *
    simp [b1, hk, b2, b2', hm, b3, b3']
    refine ⟨_, _, .inl (by simpa using h21 _), by simp, ?_⟩
    simp [b4]
    refine ⟨_, _, .inl (by simpa using h9 _), by simp, ?_⟩
    simp
  have hst := Inv.start b4
  rw [b4] at h21
  simp [b1, hk, b2, b2', hm, b3, b3']
  refine ⟨_, _, .inl (by simpa using h21 _), by simp, ?_⟩
  simp [hk]
  refine LoopK.intro (tr := [50]) mixed (by kernel_rfl) (fun i : Nat => [(0, .int .i64 n), (2, .sl 13 (acts.map encA) .sh), (7, .sl 13 (((l.map fullL).take i).map encL) .own), (40, .sl 13 (l.map encL) .sh), (41, .int .i64 k), (42, .int .i64 i)]) (fun _ => [])
    (fun i => i ≤ k) (fun i => k - i) 0 ?_ ?_ ?_
  · simp
  · simp
  · intro i i1
    have w1 : IntKind.i64.wrap ((i : Int) + 1) = i + 1 := wrap_in (by omega)
    by_cases hi : i < k
    · obtain ⟨x, hx⟩ : ∃ x, l[i]? = some x := ⟨_, List.getElem?_eq_getElem (by omega)⟩
      have htk : (l.map fullL).take (i + 1) = (l.map fullL).take i ++ [fullL x] := by rw [List.take_add_one, List.getElem?_map, hx]; simp
      have e := congrArg (List.map encL) htk
      simp only [List.map_append, List.map_cons, List.map_nil] at e
      have k22 := fun H => (t22f x.Cap).up' H rfl rfl
      have s1 : i + 1 ≤ 140737488355328 := by omega
      have s2 : (i + 1) * 104 ≤ 140737488355328 := by omega
      have s3 : min i l.length = i := by omega
      simp [hi, hk, hx, gE hx]
      refine ⟨_, _, .inl (by simpa using k22 _), by simp, ?_⟩
      have hset : (((((((((cellsL x).set 4 (AVal.int IntKind.i64 x.Cap)).set 5 (AVal.int IntKind.i64 x.Cap)).set 6 (AVal.int IntKind.i64 x.Cap)).set 7 (AVal.int IntKind.i64 x.Cap)).set 8 (AVal.int IntKind.i64 x.Cap)).set 9 (AVal.int IntKind.i64 x.Cap)).set 10 (AVal.int IntKind.i64 x.Cap)).set 11 (AVal.int IntKind.i64 x.Cap)) = cellsL (fullL x) := rfl
      simp [hset, s1, s2, s3, w1]
      refine ⟨i + 1, by omega, by omega, ?_, by simp⟩
      simpa using e.symm
    · have : i = k := by omega
      subst this
      have e0 : (l.map fullL).take i = l.map fullL := List.take_of_length_le (by simp; omega)
      rw [e0]
      have hkl : (l.map fullL).length = i := by rw [List.length_map]; exact hk
      generalize l.map fullL = L at *
      simp [hm]
      refine LoopK.intro (tr := [50]) mixed (by kernel_rfl) (fun s : Nat × List Lnk × List Tun => [(0, .int .i64 n), (1, .sl 13 (s.2.1.map encL) .sh), (10, .sl 12 (s.2.2.map encT) .sh), (56, .sl 13 (acts.map encA) .sh), (57, .int .i64 m), (58, .int .i64 s.1)]) (fun _ => [])
        (fun s => s.1 ≤ m ∧ s.2.1.length = i ∧ Inv n s.2.1 s.2.2 ∧ s.2.2.length ≤ s.1 ∧ ∀ t ∈ s.2.2, inI t.ID) (fun s => m - s.1) (0, L, []) ?_ ?_ ?_
      · exact ⟨Nat.zero_le _, hkl, hst, Nat.le_refl _, by simp⟩
      · simp
      rintro ⟨j, ls, ts⟩ ⟨j1, j2, j3, j4, j5⟩
      simp only at j1 j2 j3 j4 j5 ⊢
      by_cases hj : j < m
      case neg =>
        have : j = m := by omega
        subst this
        simp
        refine ⟨_, _, .inl (by simpa using h9 _), by simp, ?_⟩
        simp
      obtain ⟨⟨dn, t⟩, ht⟩ : ∃ a, acts[j]? = some a := ⟨_, List.getElem?_eq_getElem (by omega)⟩
      have hok := has (dn, t) (List.mem_of_getElem? ht)
      simp only at hok
      have w1 : IntKind.i64.wrap ((j : Int) + 1) = j + 1 := wrap_in (by omega)
      by_cases c1 : 3 < t.W.Thru.length
      · have c1' : (3 : Int) < t.W.Thru.length := by omega
        simp [hj, hm, ht, gE ht, c1, c1']
        refine ⟨_, _, .inl (by simpa using h9 _), by simp, ?_⟩
        simp
      have c1' : ¬ (3 : Int) < t.W.Thru.length := by omega
      have hsm := j3.sm
      have hfr := j3.fr
      obtain ⟨N, hN⟩ : ∃ N : Nat, n = N := ⟨n.toNat, by have := (check_links b4).1; omega⟩
      subst hN
      have h11 := fun (L2 : List Lnk) (T2 : List Tun) (q1 : L2.length = i) (q2 : T2.length ≤ m) (q3 : Inv N L2 T2) H => by
        have := (t11 N L2 i q1 (by omega) T2 _ rfl (by omega) fun t ht => ⟨(q3.sm t ht).1, q3.pl t ht⟩).up' H (by simp [noid, noid0]) rfl
        rw [q3.chk (by omega)] at this
        exact this
      have hnext : ∀ (L2 : List Lnk) (T2 : List Tun), L2.length = i → Inv N L2 T2 → T2.length ≤ j + 1 → (∀ t ∈ T2, inI t.ID) → ∀ H, CFun Try.prog 11 [.int .i64 N, .sl 13 (L2.map encL) .sh, .sl 12 (T2.map encT) .sh] H (.int .i64 0) H := fun L2 T2 q1 q2 q3 q4 H => h11 L2 T2 q1 (by omega) q2 H
      have h11s := hnext ls ts j2 j3 (by omega) j5
      cases dn with
      | true =>
        have k23 := fun H => (t23 ls i j2 (by omega) (fun x hx => (hfr x hx).1) ts _ rfl (by omega) (fun t ht => (hsm t ht).2) t.ID).up' H rfl rfl
        have htd := j3.tdN t.ID
        have hsub := tdN_sub (l := ls) (ts := ts) (id := t.ID)
        generalize tdN ls ts t.ID = q at *
        simp [hj, hm, ht, gE ht, c1, c1']
        refine ⟨_, _, .inl (by simpa using k23 _), by simp, ?_⟩
        by_cases g : q.2.2 = 0
        · have k11 := hnext q.1 q.2.1 (by rw [hsub.2 g, j2]) (htd g) (by have := hsub.1.length_le; omega) (fun t ht => j5 t (hsub.1.subset ht))
          simp [g]
          refine ⟨_, _, .inl (by simpa using k11 _), by simp, ?_⟩
          simp [w1]
          exact ⟨j + 1, q.1, q.2.1, ⟨by omega, by rw [hsub.2 g, j2], htd g, by have := hsub.1.length_le; omega, fun t ht => j5 t (hsub.1.subset ht)⟩, by omega, by simp⟩
        · simp [g]
          refine ⟨_, _, .inl (by simpa using h11s _), by simp, ?_⟩
          simp [w1]
          exact ⟨j + 1, ls, ts, ⟨by omega, j2, j3, by omega, j5⟩, by omega, by simp⟩
      | false =>
        have k24 := fun H => (t24 N ls i j2 (by omega) (fun x hx => (hfr x hx).1) ts _ rfl (by omega) (fun u hu => ⟨⟨(hsm u hu).1, j3.pl u hu⟩, (hsm u hu).2.1, j5 u hu⟩) t hok.2.2.2.1 hok.2.2.2.2 hok.1.1 (fun g1 g2 g3 => by
          obtain ⟨w1, w2, w3, w4⟩ := want_parts g2
          obtain ⟨o1, o2⟩ := ends_out w4
          have hck := (checkE_con j3.ck t.W).1
          rw [w3] at hck
          obtain ⟨_, _, _, _, _, p6⟩ := routeN_path hck o1 o2 g3
          obtain ⟨_, c2, c3, _⟩ := con_ok w3
          have hA := j3.okA
          refine ⟨fun x hx => (hfr x hx).2, fun u hu => ⟨(hA u hu).p, (hA u hu).b1, ?_⟩, by omega, (tuns_iff.1 j3.tu).2.1, fun u hu => ((tuns_iff.1 j3.tu).1 u hu).1, w1, ⟨?_, ?_, ?_⟩⟩
          · have h1 := (hA u hu).h0; have h2 := (hA u hu).h7; unfold inI; omega
          · simp only [wP]; omega
          · simp only [wP]; omega
          · simp only [wP]; omega) (fun _ => j3.ck) (by have := vicN_len ls ts (routeN N ls t.From t.To t.W).1 t.W; omega)).up' H (by simp [noid, noid0]) rfl
        have hlaw := suN_law (w := t) j3 (by omega)
        have hid := fun h0 => suN_ids (w := t) j3 (by omega) h0 j5 hok.1.1
        generalize suN N ls ts t = q at *
        simp [hj, hm, ht, gE ht, c1, c1']
        refine ⟨_, _, .inl (by simpa using k24 _), by simp, ?_⟩
        by_cases g : q.2.2.2 = 0
        · obtain ⟨l1, l2, l3, _⟩ := hlaw g
          have k11 := hnext q.1 q.2.1 (by rw [l2, j2]) l1 (by omega) (hid g)
          simp [g]
          refine ⟨_, _, .inl (by simpa using k11 _), by simp, ?_⟩
          simp [w1]
          exact ⟨j + 1, q.1, q.2.1, ⟨by omega, by rw [l2, j2], l1, by omega, hid g⟩, by omega, by simp⟩
        · simp [g]
          refine ⟨_, _, .inl (by simpa using h11s _), by simp, ?_⟩
          simp [w1]
          exact ⟨j + 1, ls, ts, ⟨by omega, j2, j3, by omega, j5⟩, by omega, by simp⟩
end Go.Proofs.Ytpmmnnaaoideeaa

/- Reading a list of calls. -/
namespace Go.Proofs.Ytpmmnnaaoideeaa
open Go Go.Am Go.Wk

def tyAs : Bool × List CTy := (false, [.sl true 144 (.bool :: csT)])
theorem rd_As {x : AVal} (h : RdA tyAs x) : ∃ l : List (Bool × Tun), x = .sl 13 (l.map encA) .sh ∧ l.length < 9223372036854775807 ∧ ∀ a ∈ l, okT a.2 := by
  obtain ⟨cs, h1, h2⟩ := h
  simp only [tyAs, Rds, Rd] at h2
  obtain ⟨y, r, rfl, ⟨xs, rfl, hl, hx⟩, rfl⟩ := h2
  simp [tyAs] at h1
  subst h1
  obtain ⟨l, rfl, hok⟩ := decAllP (enc := encA) (P := fun a => okT a.2) xs fun y hy => by
    obtain ⟨cs, h1, h2⟩ := hx y hy
    obtain ⟨z, r, rfl, ⟨b, rfl⟩, h3⟩ := h2
    obtain ⟨t, ht, rfl⟩ := rdT_elem h3
    exact ⟨(b, t), ht, by simpa using h1⟩
  have := reach_eq
  simp only [List.length_map] at hl
  exact ⟨l, rfl, by omega, hok⟩
end Go.Proofs.Ytpmmnnaaoideeaa
