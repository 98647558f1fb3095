/- A tree of the law: the region in which its record and rows are made, in any order. -/
import Derived.Test.YtgcnlmcpmocbhaaC73
import Derived.Test.YtgcnlmcpmocbhaaC69
set_option linter.unusedSimpArgs false
set_option linter.unusedVariables false
namespace Go.Proofs.Ytgcnlmcpmocbhaa
open Go Go.Am Go.Wk

theorem idxNe {x : Nat} {L : List Nat} (e : ¬ x = 2) : (x :: L).idxOf 2 = L.idxOf 2 + 1 := by
  have : (x == 2) = false := by simpa using e
  simp [List.idxOf_cons, this]
theorem celR_set {N : Nat} {D : Nat → Nat → Int} {r : Nat} : ∀ {L : List Nat}, L.Nodup → 2 ∈ L → ∀ M, (L.map (celR N D r M false)).set (L.idxOf 2) (recR N D r M) = L.map (celR N D r M true)
  | [], _, h, _ => by cases h
  | x :: L, hn, h, M => by
    rw [List.nodup_cons] at hn
    by_cases e : x = 2
    · subst e
      rw [List.idxOf_cons_self, List.map_cons, List.set_cons_zero, List.map_cons]
      congr 1
      refine List.map_congr_left fun y hy => ?_
      have : ¬ y = 2 := fun c => hn.1 (c ▸ hy)
      simp [celR, this]
    · have h2 : 2 ∈ L := by rcases List.mem_cons.1 h with h | h; exact absurd h.symm e; exact h
      rw [idxNe e, List.map_cons, List.set_cons_succ, celR_set hn.2 h2 M, List.map_cons]
      congr 1
      simp [celR, e]
theorem celR_get {N : Nat} {D : Nat → Nat → Int} {r : Nat} {b : Bool} : ∀ {L : List Nat}, 2 ∈ L → ∀ M, (L.map (celR N D r M b))[L.idxOf 2]? = some (if b = true then recR N D r M else zerR)
  | [], h, _ => by cases h
  | x :: L, h, M => by
    by_cases e : x = 2
    · subst e
      rw [List.idxOf_cons_self, List.map_cons, List.getElem?_cons_zero]
      simp [celR]
    · have h2 : 2 ∈ L := by rcases List.mem_cons.1 h with h | h; exact absurd h.symm e; exact h
      rw [idxNe e, List.map_cons, List.getElem?_cons_succ, celR_get h2 M]
theorem repE_le (k N : Nat) : LeCells k (List.replicate N (.sl 0 [] .full)) (List.replicate N (.sl 0 [] .full)) := by
  induction N with
  | zero => trivial
  | succ n ih => exact ⟨LeV_refl _, rfl, ih⟩
theorem repE_leS (σ : Nat → Nat) (M k N : Nat) : LeCellsS σ M k (List.replicate N (.sl 0 [] .full)) (List.replicate N (.sl 0 [] .full)) := by
  induction N with
  | zero => trivial
  | succ n ih => exact ⟨LeV_refl _, rfl, rfl, ih⟩
@[simp] def encP (l : List Nat) : AVal := .sl 1 (l.map fun i => .int .i64 (i : Nat)) .own
theorem encP_le (m : Nat) (M : List (List Nat)) : LeCells m (M.map encP) (M.map encP) := by
  induction M with
  | nil => trivial
  | cons a M ih => simp [LeCells] at ih ⊢; exact ih
theorem repE_encP (m n : Nat) : LeCells m (List.replicate n (.sl 0 [] .full)) (List.replicate n (.sl 1 [] .own)) := by
  induction n with
  | zero => trivial
  | succ n ih => exact ⟨by simp [LeV, LeS], rfl, ih⟩
theorem perm3 {L : List Nat} (h1 : L.Nodup) (h2 : ∀ x ∈ L, x < 3) (a0 : 0 ∈ L) (a1 : 1 ∈ L) (a2 : 2 ∈ L) : L = [0, 1, 2] ∨ L = [0, 2, 1] ∨ L = [1, 0, 2] ∨ L = [1, 2, 0] ∨ L = [2, 0, 1] ∨ L = [2, 1, 0] := by
  rcases L with _ | ⟨a, _ | ⟨b, _ | ⟨c, _ | ⟨d, Q⟩⟩⟩⟩
  · cases a0
  · simp at a0 a1 a2; omega
  · simp at a0 a1 a2; omega
  · simp at h1 h2 a0 a1 a2 ⊢
    omega
  · have ha := h2 a (by simp)
    have hb := h2 b (by simp)
    have hc := h2 c (by simp)
    have hd := h2 d (by simp)
    simp at h1
    omega
set_option maxHeartbeats 8000000 in
set_option maxRecDepth 100000 in
theorem c22 (N : Nat) (h0 : 0 < N) (hN : N ≤ 20) (l : List Lnk) (L : Nat) (hL : l.length = L) (hL2 : L ≤ 100) (hok : ∀ x ∈ l, okLk N x ∧ x.From ≠ x.To) (hasc : l.Pairwise fun x y => x.From < y.From ∨ x.From = y.From ∧ x.To < y.To) (r : Nat) (hr : r < N) :
    CFun Try.prog 22 [.agg (cellsG N l), .int .i64 r] [] (.tup [.mix [.int .i64 r, .sl 1 (rwD N (allF N (edgF l begF) r)) .sh, .osl 2 0 N (some N) 1, .osl 3 0 N (some N) 1], .int .i64 0]) [[], [], [], []] := by
  refine CFun.intro (tr := [100043, 100045, 73, 144, 4000144, 210, 3000210, 600008]) (fz := []) (n := 216) (rs := [.cell 4 49, .tmp 5]) Try.func22 rfl (by kernel_rfl) rfl rfl mixed (by kernel_rfl) (by simp) (by simp) ?_
  have k40 := fun H => (c40 N hN l L hL hL2 hok hasc).up' H rfl rfl
  have k41 := fun H => (c41 N h0 hN l L hL hL2 hok hasc).up' H rfl rfl
  have rI : (r : Int) < N := by omega
  have r1 : ¬ ((N : Int) ≤ r) := by omega
  have m1 : 24 * N ≤ 281474976710656 := by omega
  generalize allF N (edgF l begF) = D at *
  simp only [cellsG] at k40 k41
  simp
  refine ⟨_, _, .inl (by simpa using k40 _), by simp, ?_⟩
  simp [hr, rI, r1]
  refine ⟨_, _, .inl (by simpa using k41 _), by simp, ?_⟩
  simp [hr, rI, r1, m1, h0]
  generalize hK : awp Try.prog _ _ _ _ _ = K
  clear k40 k41
  have hfin : ∃ body Q, (∀ (s : ASt) (c : Nat), s.t 1 = .int .i64 r → s.t 2 = .ptr 0 0 → s.t 4 = .ptr 1 0 → s.t 7 = matD N D → s.t 8 = .int .i64 N → s.t 9 = .ptr c 0 →
      (∀ t' : Nat → AVal, t' 1 = .int .i64 r ∧ t' 2 = .ptr 0 0 ∧ t' 4 = .ptr 1 0 ∧ t' 7 = matD N D ∧ t' 8 = .int .i64 N ∧ t' 9 = .ptr c 0 ∧ t' 10 = .sl 1 [] .full ∧ t' 11 = .int .i64 0 → LoopK Try.prog 216 0 body Q ⟨t', s.H⟩) → K s) ∧
      LoopK Try.prog 216 0 body Q ⟨Go.Am.look [(1, .int .i64 r), (2, .ptr 0 0), (4, .ptr 1 0), (7, matD N D), (8, .int .i64 N), (9, .ptr 4 0), (10, .sl 1 [] .full), (11, .int .i64 0)], [cellsG N l, zerR, List.replicate N (.sl 0 [] .full), List.replicate N (.sl 0 [] .full), recR N D r [0, 1, 2]]⟩ := by
    refine ⟨?bd, ?qq, ?h1, ?h2⟩
    case h1 =>
      intro s c e1 e2 e4 e7 e8 e9 h
      rw [← hK]
      simp
      refine h _ ?_
      simp [e1, e2, e4, e7, e8, e9]
    case h2 =>
      clear hK
      have hDl := fun f => rwD_len N f
      have hDg := fun k f h => rwD_getE (n := N) (k := k) (f := f) h
      have hAl : (List.map (fun i => (.sl 1 (rwD N (D i)) .sh : AVal)) (List.range N)).length = N := by simp
      have k42 := fun v (hv : v < N) H => (c42 N h0 hN l L hL hL2 D r v hr hv).up' H rfl rfl
      have k43 := fun (a b : Nat) H => (c43 N l L hL hL2 a b).up' H rfl rfl
      simp only [cellsG] at k42 k43
      refine LoopK.intro (tr := [100043, 100045, 73, 144, 4000144, 210, 3000210, 600008]) mixed (by kernel_rfl)
        (fun q : Nat × List Nat => [(1, .int .i64 r), (2, .ptr 0 0), (4, .ptr 1 0), (7, matD N D), (8, .int .i64 N), (9, .ptr 4 0), (10, .sl 1 (q.2.map fun i => .int .i64 (i : Nat)) .own), (11, .int .i64 q.1)])
        (fun _ => [cellsG N l, zerR, List.replicate N (.sl 0 [] .full), List.replicate N (.sl 0 [] .full), recR N D r [0, 1, 2]]) (fun q => q.1 ≤ N ∧ q.2.length ≤ q.1 ∧ ∀ x ∈ q.2, x < N) (fun q => N - q.1) (0, []) ?_ ?_ ?_
      · simp
      · simp [zerR, recR, repE_le, show ([0, 1, 2] : List Nat).idxOf 1 = 1 from rfl]
      · rintro ⟨v, F⟩ ⟨q1, q2, q3⟩
        simp only at q1 q2 q3
        by_cases hv : v < N
        · have hvI : (v : Int) < N := by omega
          have w1 : IntKind.i64.wrap ((v : Int) + 1) = v + 1 := wrap_in (by omega)
          generalize hQ : LoopPost _ _ _ _ _ _ _ = Q
          have j1 : ([0, 1, 2] : List Nat).idxOf 1 = 1 := rfl
          by_cases c1 : v = r
          · subst c1
            simp [hv, hvI, w1]
            rw [← hQ]
            simp only [LoopPost]
            refine ⟨(v + 1, F), ⟨hv, by simp only; omega, q3⟩, by simp only; omega, ?_⟩
            simp [zerR, recR, repE_le, j1]
          · have c1' : ¬ (v : Int) = r := by omega
            by_cases c2 : 0 ≤ D r v
            · simp [hv, hvI, hr, rI, w1, c1, c1', c2, hDl, hDg]
              refine ⟨_, _, .inl (by simpa using k42 v hv _), by simp, ?_⟩
              cases hb : dirF l D r v with
              | false =>
                simp [hv, hvI, w1]
                rw [← hQ]
                simp only [LoopPost]
                refine ⟨(v + 1, F), ⟨hv, by simp only; omega, q3⟩, by simp only; omega, ?_⟩
                simp [zerR, recR, repE_le, j1]
              | true =>
                have b1 : (F.length + 1) * 8 ≤ 140737488355328 := by omega
                have b2 : F.length ≤ 140737488355327 := by omega
                simp [hv, hvI, w1, b1, b2]
                rw [← hQ]
                simp only [LoopPost]
                refine ⟨(v + 1, F ++ [v]), ⟨hv, by simp; omega, fun x hx => ?_⟩, by simp only; omega, ?_⟩
                · rcases List.mem_append.1 hx with h | h
                  · exact q3 x h
                  · simp at h; omega
                · simp [zerR, recR, repE_le, j1]
            · simp [hv, hvI, hr, rI, w1, c1, c1', c2, hDl, hDg]
              rw [← hQ]
              simp only [LoopPost]
              refine ⟨(v + 1, F), ⟨hv, by simp only; omega, q3⟩, by simp only; omega, ?_⟩
              simp [zerR, recR, repE_le, j1]
        · have hvN : v = N := by omega
          clear hv q1
          subst hvN
          have j1 : ([0, 1, 2] : List Nat).idxOf 1 = 1 := rfl
          simp
          refine LoopK.intro (tr := [100043, 100045, 73, 144, 4000144, 210, 3000210, 600008]) mixed (by kernel_rfl)
            (fun q : Nat × List (List Nat) × List (List Nat) => [(1, .int .i64 r), (2, .ptr 0 0), (4, .ptr 1 0), (7, matD v D), (8, .int .i64 v), (9, .ptr 4 0), (10, .sl 1 (F.map fun i => .int .i64 (i : Nat)) .sh), (12, .int .i64 q.1)])
            (fun q => [cellsG v l, zerR, q.2.2.map encP, q.2.1.map encP, recR v D r [0, 1, 2]]) (fun q => q.1 ≤ v ∧ (q.2.1.length = v ∧ ∀ x ∈ q.2.1, x.length ≤ 20 * q.1) ∧ q.2.2.length = v ∧ ∀ x ∈ q.2.2, x.length ≤ 20 * q.1) (fun q => v - q.1) (0, List.replicate v [], List.replicate v []) ?_ ?_ ?_
          · simp
          · simp [zerR, recR, encP_le, repE_encP, j1]
          · rintro ⟨i, M1, M2⟩ ⟨p1, p2, p3⟩
            simp only at p1 p2 p3
            obtain ⟨p2, p4⟩ := p2
            obtain ⟨p3, p5⟩ := p3
            by_cases hi : i < v
            case neg =>
              have hiv : i = v := by omega
              subst hiv
              simp [zerR, recR, j1]
            have hiI : (i : Int) < v := by omega
            have hi1 : i + 1 ≤ v := hi
            have w1 : IntKind.i64.wrap ((i : Int) + 1) = i + 1 := wrap_in (by omega)
            generalize hQ : LoopPost _ _ _ _ _ _ _ = Q
            by_cases c1 : i = r
            · subst c1
              simp [hi, hiI, w1]
              rw [← hQ]
              simp only [LoopPost]
              refine ⟨(i + 1, M1, M2), ⟨hi, ⟨p2, fun x hx => ?_⟩, p3, fun x hx => ?_⟩, by simp only; omega, ?_⟩
              · have := p4 x hx; simp only; omega
              · have := p5 x hx; simp only; omega
              · simp [zerR, recR, encP_le, j1]
            have c1' : ¬ (i : Int) = r := by omega
            by_cases c2 : D r i < 0
            · simp [hi, hiI, hr, rI, w1, c1, c1', c2, hDl, hDg]
              rw [← hQ]
              simp only [LoopPost]
              refine ⟨(i + 1, M1, M2), ⟨hi, ⟨p2, fun x hx => ?_⟩, p3, fun x hx => ?_⟩, by simp only; omega, ?_⟩
              · have := p4 x hx; simp only; omega
              · have := p5 x hx; simp only; omega
              · simp [zerR, recR, encP_le, j1]
            simp [hi, hiI, hr, rI, w1, c1, c1', c2, hDl, hDg]
            refine LoopK.intro (tr := [100043, 100045, 73, 144, 4000144, 210, 3000210, 600008]) mixed (by kernel_rfl)
              (fun q : Nat × List (List Nat) => [(1, .int .i64 r), (2, .ptr 0 0), (4, .ptr 1 0), (7, matD v D), (8, .int .i64 v), (9, .ptr 4 0), (10, .sl 1 (F.map fun i => .int .i64 (i : Nat)) .sh), (12, .int .i64 i), (13, .int .i64 q.1)])
              (fun q => [cellsG v l, zerR, M2.map encP, q.2.map encP, recR v D r [0, 1, 2]]) (fun q => q.1 ≤ v ∧ q.2.length = v ∧ ∀ x ∈ q.2, x.length ≤ 20 * i + q.1) (fun q => v - q.1) (0, M1) ?_ ?_ ?_
            · exact ⟨Nat.zero_le _, p2, p4⟩
            · simp [zerR, recR, encP_le, j1]
            rintro ⟨u, M⟩ ⟨o1, o2, o3⟩
            simp only at o1 o2 o3
            by_cases hu : u < v
            · have huI : (u : Int) < v := by omega
              have w2 : IntKind.i64.wrap ((u : Int) + 1) = u + 1 := wrap_in (by omega)
              obtain ⟨R, hR⟩ : ∃ R, M[i]? = some R := ⟨_, List.getElem?_eq_getElem (by omega)⟩
              have hRl := o3 R (List.mem_of_getElem? hR)
              have hRi : ∀ h : i < M.length, M[i] = R := fun h => getE h hR
              have hset := fun m => encP_le m (M.set i (R ++ [u]))
              simp at hset
              have b1 : (R.length + 1) * 8 ≤ 140737488355328 := by omega
              have b2 : R.length ≤ 140737488355327 := by omega
              have hskip : ∀ x ∈ M, x.length ≤ 20 * i + (u + 1) := fun x hx => by have := o3 x hx; omega
              generalize hQ2 : LoopPost _ _ _ _ _ _ _ = Q2
              simp [hu, huI]
              refine ⟨_, _, .inl (by simpa using k43 u i _), by simp, ?_⟩
              generalize costF l u i = cc
              cases hb : (l.find? (isE u i)).isSome with
              | false =>
                simp [w2]
                rw [← hQ2]
                simp only [LoopPost]
                refine ⟨(u + 1, M), ⟨hu, o2, hskip⟩, by simp only; omega, ?_⟩
                simp [zerR, recR, encP_le, j1]
              | true =>
                by_cases d1 : 0 ≤ D r u
                · generalize hs : IntKind.i64.wrap (D r u + cc) = sm
                  by_cases d2 : sm = D r i
                  · simp [hu, huI, hi, hiI, hr, rI, w2, d1, hDl, hDg, hs, d2, zerR, recR, j1, hRi, o2, b1, b2, hi1]
                    rw [← hQ2]
                    simp only [LoopPost]
                    refine ⟨(u + 1, M.set i (R ++ [u])), ⟨hu, by simpa using o2, fun x hx => ?_⟩, by simp only; omega, ?_⟩
                    · rcases List.mem_or_eq_of_mem_set hx with h | h
                      · exact hskip x h
                      · subst h; simp; omega
                    · simp [encP_le, hset, zerR, recR, j1]
                  · simp [hu, huI, hi, hiI, hr, rI, w2, d1, hDl, hDg, hs, d2]
                    rw [← hQ2]
                    simp only [LoopPost]
                    refine ⟨(u + 1, M), ⟨hu, o2, hskip⟩, by simp only; omega, ?_⟩
                    simp [zerR, recR, encP_le, j1]
                · simp [hu, huI, hi, hiI, hr, rI, w2, d1, hDl, hDg]
                  rw [← hQ2]
                  simp only [LoopPost]
                  refine ⟨(u + 1, M), ⟨hu, o2, hskip⟩, by simp only; omega, ?_⟩
                  simp [zerR, recR, encP_le, j1]
            · have huv : u = v := by omega
              subst huv
              generalize hQ2 : LoopPost _ _ _ _ _ _ _ = Q2
              simp
              rw [← hQ2]
              simp only [LoopPost]
              clear hQ2 Q2
              simp
              refine LoopK.intro (tr := [100043, 100045, 73, 144, 4000144, 210, 3000210, 600008]) mixed (by kernel_rfl)
                (fun q : Nat × List (List Nat) => [(1, .int .i64 r), (2, .ptr 0 0), (4, .ptr 1 0), (7, matD u D), (8, .int .i64 u), (9, .ptr 4 0), (10, .sl 1 (F.map fun i => .int .i64 (i : Nat)) .sh), (12, .int .i64 i), (16, .int .i64 q.1)])
                (fun q => [cellsG u l, zerR, q.2.map encP, M.map encP, recR u D r [0, 1, 2]]) (fun q => q.1 ≤ F.length ∧ q.2.length = u ∧ ∀ x ∈ q.2, x.length ≤ 20 * i + q.1) (fun q => F.length - q.1) (0, M2) ?_ ?_ ?_
              · exact ⟨Nat.zero_le _, p3, p5⟩
              · simp [zerR, recR, encP_le, j1]
              rintro ⟨k, W⟩ ⟨n1, n2, n3⟩
              simp only at n1 n2 n3
              by_cases hk : k < F.length
              · have hkI : (k : Int) < F.length := by omega
                have w3 : IntKind.i64.wrap ((k : Int) + 1) = k + 1 := wrap_in (by omega)
                obtain ⟨R, hR⟩ : ∃ R, W[i]? = some R := ⟨_, List.getElem?_eq_getElem (by omega)⟩
                have hRl := n3 R (List.mem_of_getElem? hR)
                have hRi : ∀ h : i < W.length, W[i] = R := fun h => getE h hR
                obtain ⟨h, hF⟩ : ∃ h, F[k]? = some h := ⟨_, List.getElem?_eq_getElem (by omega)⟩
                have hh := q3 h (List.mem_of_getElem? hF)
                have hhI : (h : Int) < u := by omega
                have hFi : ∀ c : k < F.length, F[k] = h := fun c => getE c hF
                have hset := fun m => encP_le m (W.set i (R ++ [h]))
                simp at hset
                have b1 : (R.length + 1) * 8 ≤ 140737488355328 := by omega
                have b2 : R.length ≤ 140737488355327 := by omega
                have hskip : ∀ x ∈ W, x.length ≤ 20 * i + (k + 1) := fun x hx => by have := n3 x hx; omega
                generalize hQ2 : LoopPost _ _ _ _ _ _ _ = Q2
                by_cases d0 : h = i
                · subst d0
                  simp [hk, hkI, hi, hiI, w3, zerR, recR, j1, hFi, hRi, n2, b1, b2, hi1]
                  rw [← hQ2]
                  simp only [LoopPost]
                  refine ⟨(k + 1, W.set h (R ++ [h])), ⟨hk, by simpa using n2, fun x hx => ?_⟩, by simp only; omega, ?_⟩
                  · rcases List.mem_or_eq_of_mem_set hx with h | h
                    · exact hskip x h
                    · subst h; simp; omega
                  · simp [encP_le, hset, zerR, recR, j1]
                · have d0' : ¬ (h : Int) = i := by omega
                  by_cases d1 : 0 ≤ D h i
                  · generalize hs : IntKind.i64.wrap (D r h + D h i) = sm
                    by_cases d2 : sm = D r i
                    · simp [hk, hkI, hi, hiI, hr, rI, hh, hhI, w3, zerR, recR, j1, hFi, d0, d0', hDl, hDg, d1, hs, d2, hRi, n2, b1, b2, hi1]
                      rw [← hQ2]
                      simp only [LoopPost]
                      refine ⟨(k + 1, W.set i (R ++ [h])), ⟨hk, by simpa using n2, fun x hx => ?_⟩, by simp only; omega, ?_⟩
                      · rcases List.mem_or_eq_of_mem_set hx with h | h
                        · exact hskip x h
                        · subst h; simp; omega
                      · simp [encP_le, hset, zerR, recR, j1]
                    · simp [hk, hkI, hi, hiI, hr, rI, hh, hhI, w3, zerR, recR, j1, hFi, d0, d0', hDl, hDg, d1, hs, d2]
                      rw [← hQ2]
                      simp only [LoopPost]
                      refine ⟨(k + 1, W), ⟨hk, n2, hskip⟩, by simp only; omega, ?_⟩
                      simp [encP_le, zerR, recR, j1]
                  · simp [hk, hkI, hi, hiI, hr, rI, hh, hhI, w3, zerR, recR, j1, hFi, d0, d0', hDl, hDg, d1]
                    rw [← hQ2]
                    simp only [LoopPost]
                    refine ⟨(k + 1, W), ⟨hk, n2, hskip⟩, by simp only; omega, ?_⟩
                    simp [encP_le, zerR, recR, j1]
              · have hkF : k = F.length := by omega
                generalize hQ2 : LoopPost _ _ _ _ _ _ _ = Q2
                simp [hkF]
                rw [← hQ2]
                simp only [LoopPost]
                simp [w1]
                rw [← hQ]
                simp only [LoopPost]
                refine ⟨(i + 1, M, W), ⟨hi, ⟨o2, fun x hx => ?_⟩, n2, fun x hx => ?_⟩, by simp only; omega, ?_⟩
                · have := o3 x hx; simp only; omega
                · have := n3 x hx; simp only; omega
                · simp [zerR, recR, encP_le, j1]
  obtain ⟨body, Q, hf1, hf2⟩ := hfin
  clear hK
  generalize hs0 : (ASt.mk _ _) = s0
  obtain ⟨A, hA⟩ : ∃ A, A = cellsG N l := ⟨_, rfl⟩
  obtain ⟨B, hB⟩ : ∃ B : List AVal, B = [.int .i64 0, .sl 0 [] .full, .sl 0 [] .full, .sl 0 [] .full] := ⟨_, rfl⟩
  have z1 : s0.t 1 = .int .i64 r := by rw [← hs0]; simp
  have z2 : s0.t 2 = .ptr 0 0 := by rw [← hs0]; simp
  have z4 : s0.t 4 = .ptr 1 0 := by rw [← hs0]; simp
  have z7 : s0.t 7 = matD N D := by rw [← hs0]; simp
  have z8 : s0.t 8 = .int .i64 N := by rw [← hs0]; simp
  have zH : s0.H = [A, B] := by rw [← hs0, hA, hB]; simp
  have m2 : (N : Int) ≤ 9223372036854775807 := by omega
  clear hs0
  have hDl := fun f => rwD_len N f
  have hDg := fun k f h => rwD_getE (n := N) (k := k) (f := f) h
  refine AnyK_inv (fun l2 s => ∃ Lx, RegI N D r s0.t A B l2 Lx s) ?_ ?_ ?_ ?_
  · exact ⟨[], ⟨by simp, by simp, by simp, by simp [zH], by simp, fun _ _ => rfl, by simp, by simp⟩⟩
  · rintro l2 s i o ⟨Lx, hI⟩ ho hl hdep
    clear hA hB
    have hi : i < 12 := by have := (Array.getElem?_eq_some_iff.1 ho).1; simpa using this
    have t1 := (hI.t0 1 (by omega)).trans z1
    have t2 := (hI.t0 2 (by omega)).trans z2
    have t7 := (hI.t0 7 (by omega)).trans z7
    have t8 := (hI.t0 8 (by omega)).trans z8
    rcases (by omega : i = 0 ∨ i = 1 ∨ i = 2 ∨ i = 3 ∨ i = 4 ∨ i = 5 ∨ i = 6 ∨ i = 7 ∨ i = 8 ∨ i = 9 ∨ i = 10 ∨ i = 11) with rfl | rfl | rfl | rfl | rfl | rfl | rfl | rfl | rfl | rfl | rfl | rfl
    all_goals
      simp at ho
      subst ho
      simp [Region.binds] at hdep
    · simp [t1]
      rw [orIf]
      exact ⟨Lx, hI.put 0 (by omega) (by omega) hl (by omega)⟩
    · simp [t7]
      rw [orIf]
      exact ⟨Lx, hI.put 1 (by omega) (by omega) hl (by omega)⟩
    · simp [t1]
      rw [orIf]
      exact ⟨Lx, hI.put 2 (by omega) (by omega) hl (by omega)⟩
    · have v1 : s.t 38 = matD N D := hI.val 1 (by omega) hdep.1
      have v2 : s.t 39 = .int .i64 r := hI.val 2 (by omega) hdep.2
      simp [v1, v2, hr, rI]
      rw [orIf]
      exact ⟨Lx, hI.put 3 (by omega) (by omega) hl (by omega)⟩
    · have v1 : s.t 40 = .iptr [.sl 1 (rwD N (D r)) .sh] 0 := hI.val 3 (by omega) hdep
      simp [v1]
      rw [orIf]
      exact ⟨Lx, hI.put 4 (by omega) (by omega) hl (by omega)⟩
    · simp [t8]
      rw [orIf]
      exact ⟨Lx, hI.put 5 (by omega) (by omega) hl (by omega)⟩
    · have v1 : s.t 42 = .int .i64 N := hI.val 5 (by omega) hdep
      obtain ⟨q1, q2⟩ := hI.make 0 (by omega) hl
      simp [v1, h0, m1, m2]
      rw [orIf]
      refine ⟨Lx ++ [0], ?_⟩
      rw [← q2]
      simpa [valR, slotR, Nat.add_comm] using q1
    · simp [t8]
      rw [orIf]
      exact ⟨Lx, hI.put 7 (by omega) (by omega) hl (by omega)⟩
    · have v1 : s.t 44 = .int .i64 N := hI.val 7 (by omega) hdep
      obtain ⟨q1, q2⟩ := hI.make 1 (by omega) hl
      simp [v1, h0, m1, m2]
      rw [orIf]
      refine ⟨Lx ++ [1], ?_⟩
      rw [← q2]
      simpa [valR, slotR, Nat.add_comm] using q1
    · have v1 : s.t 37 = .int .i64 r := hI.val 0 (by omega) hdep.1
      have v2 : s.t 41 = .sl 1 (rwD N (D r)) .sh := hI.val 4 (by omega) hdep.2.1
      have v3 : s.t 43 = _ := hI.val 6 (by omega) hdep.2.2.1
      have v4 : s.t 45 = _ := hI.val 8 (by omega) hdep.2.2.2
      simp only [valR] at v3 v4
      simp [v1, v2, v3, v4]
      rw [orIf]
      exact ⟨Lx, hI.put 9 (by omega) (by omega) hl (fun _ => ⟨hdep.2.2.1, hdep.2.2.2⟩)⟩
    · obtain ⟨q1, q2⟩ := hI.make 2 (by omega) hl
      simp
      rw [orIf]
      refine ⟨Lx ++ [2], ?_⟩
      rw [← q2]
      simpa [valR, slotR, Nat.add_comm, zerR] using q1
    · have v1 : s.t 9 = _ := hI.val 10 (by omega) (by simp [hdep])
      have v2 : s.t 46 = _ := hI.val 9 (by omega) (by simp [hdep])
      simp only [valR] at v1 v2
      have hH := hI.hH
      rw [hl] at hH
      have m2 := (hI.mem 2 (by omega)).2 (by simp [hdep])
      have g1 := celR_get (N := N) (D := D) (r := r) (b := false) m2 Lx
      have g2 := celR_set (N := N) (D := D) (r := r) hI.nd m2 Lx
      have n1 : s = ⟨s.t, A :: B :: Lx.map (celR N D r Lx false)⟩ := by rw [← hH]
      rw [n1]
      have n2 : 2 + Lx.idxOf 2 = Lx.idxOf 2 + 1 + 1 := by omega
      simp [v1, v2]
      simp [n2, g1, zerR]
      rw [orIf]
      refine ⟨Lx, hI.nd, hI.lt, fun q hq => ?_, ?_, fun j hj hlj => ?_, hI.t0, fun h => ?_, fun h j hj => ?_⟩
      · show _ ↔ (if 6 + 2 * q = 11 then true else l2 (6 + 2 * q)) = true
        rw [if_neg (by omega)]
        exact hI.mem q hq
      · simp only [recR] at g2
        rw [n2] at *
        simp [g2]
      · have hlj : (if j = 11 then true else l2 j) = true := hlj
        rw [if_neg (by omega)] at hlj
        exact hI.val j hj hlj
      · simp [hdep]
      · show (if j = 11 then true else l2 j) = true
        rw [if_neg (by omega)]
        rcases (by omega : j = 0 ∨ j = 1 ∨ j = 2 ∨ j = 3 ∨ j = 4 ∨ j = 5 ∨ j = 6 ∨ j = 7 ∨ j = 8 ∨ j = 9 ∨ j = 10) with rfl | rfl | rfl | rfl | rfl | rfl | rfl | rfl | rfl | rfl | rfl
        all_goals simp [hdep]
  · rintro l2 s ⟨Lx, hI⟩ hall
    have hall2 : ∀ i, i < 12 → l2 i = true := fun i hi => hall i (by simpa using hi)
    have p1 := (hI.mem 0 (by omega)).2 (hall2 _ (by omega))
    have p2 := (hI.mem 1 (by omega)).2 (hall2 _ (by omega))
    have p3 := (hI.mem 2 (by omega)).2 (hall2 _ (by omega))
    have p4 := hI.nd
    have p5 := hI.lt
    have hperm : Lx = [0, 1, 2] ∨ Lx = [0, 2, 1] ∨ Lx = [1, 0, 2] ∨ Lx = [1, 2, 0] ∨ Lx = [2, 0, 1] ∨ Lx = [2, 1, 0] := perm3 p4 p5 p1 p2 p3
    have hH := hI.hH
    rw [hall2 11 (by omega)] at hH
    refine hf1 s _ ((hI.t0 1 (by omega)).trans z1) ((hI.t0 2 (by omega)).trans z2) ((hI.t0 4 (by omega)).trans z4) ((hI.t0 7 (by omega)).trans z7) ((hI.t0 8 (by omega)).trans z8) (hI.val 10 (by omega) (hall2 10 (by omega))) ?_
    rintro t' ⟨g1, g2, g4, g7, g8, g9, g10, g11⟩
    rw [hH, hA, hB]
    clear hI hH p1 p2 p3 p4 p5
    have j1 : ([0, 1, 2] : List Nat).idxOf 1 = 1 := rfl
    have hf3 : LoopK Try.prog 216 0 body Q ⟨Go.Am.look [(1, .int .i64 r), (2, .ptr 0 0), (4, .ptr 1 0), (7, matD N D), (8, .int .i64 N), (9, .ptr 4 0), (10, .sl 1 [] .full), (11, .int .i64 0)], [cellsG N l, zerR, List.replicate N (.sl 0 [] .full), List.replicate N (.sl 0 [] .full), recR N D r [1, 0]]⟩ :=
      LoopK.swap 2 3 _ _ hf2 (by omega) (by omega) (by simp) (by simp) (by simp) (by simp [LeLookS, ren, ren0, swp]) (by simp [LeBoxesS, swpH, LeCellsS, ren, ren0, swp, recR, zerR, show ([1, 0] : List Nat).idxOf 0 = 1 from rfl, j1, repE_leS])
    have j2 : ([1, 0] : List Nat).idxOf 0 = 1 := rfl
    rcases hperm with rfl | rfl | rfl | rfl | rfl | rfl
    · have i1 : ([0, 1, 2] : List Nat).idxOf 1 = 1 := rfl
      have i2 : ([0, 1, 2] : List Nat).idxOf 2 = 2 := rfl
      rw [i2] at g9
      exact LoopK.less _ _ hf2 (by simp [celR, recR, zerR, g1, g2, g4, g7, g8, g9, g10, g11, i1, i2, repE_le])
    · have i1 : ([0, 2, 1] : List Nat).idxOf 1 = 2 := rfl
      have i2 : ([0, 2, 1] : List Nat).idxOf 2 = 1 := rfl
      have j1 : ([0, 1, 2] : List Nat).idxOf 1 = 1 := rfl
      rw [i2] at g9
      exact LoopK.swap 3 4 _ _ hf2 (by omega) (by omega) (by simp) (by simp) (by simp) (by simp [LeLookS, ren, ren0, swp, g1, g2, g4, g7, g8, g9, g10, g11, i1, i2, j1]) (by simp [LeBoxesS, swpH, LeCellsS, ren, ren0, swp, celR, recR, zerR, i1, i2, j1, repE_leS])
    · have i1 : ([1, 0, 2] : List Nat).idxOf 0 = 1 := rfl
      have i2 : ([1, 0, 2] : List Nat).idxOf 2 = 2 := rfl
      have j1 : ([0, 1, 2] : List Nat).idxOf 1 = 1 := rfl
      rw [i2] at g9
      exact LoopK.swap 2 3 _ _ hf2 (by omega) (by omega) (by simp) (by simp) (by simp) (by simp [LeLookS, ren, ren0, swp, g1, g2, g4, g7, g8, g9, g10, g11, i1, i2, j1]) (by simp [LeBoxesS, swpH, LeCellsS, ren, ren0, swp, celR, recR, zerR, i1, i2, j1, repE_leS])
    · have i0 : ([1, 2, 0] : List Nat).idxOf 0 = 2 := rfl
      have i1 : ([1, 2, 0] : List Nat).idxOf 1 = 0 := rfl
      have i2 : ([1, 2, 0] : List Nat).idxOf 2 = 1 := rfl
      rw [i2] at g9
      exact LoopK.swap 3 4 _ _ hf3 (by omega) (by omega) (by simp) (by simp) (by simp) (by simp [LeLookS, ren, ren0, swp, g1, g2, g4, g7, g8, g9, g10, g11, i0, i1, i2, j1, j2]) (by simp [LeBoxesS, swpH, LeCellsS, ren, ren0, swp, celR, recR, zerR, i0, i1, i2, j1, j2, repE_leS])
    · have i0 : ([2, 0, 1] : List Nat).idxOf 0 = 1 := rfl
      have i1 : ([2, 0, 1] : List Nat).idxOf 1 = 2 := rfl
      have i2 : ([2, 0, 1] : List Nat).idxOf 2 = 0 := rfl
      rw [i2] at g9
      exact LoopK.swap 2 4 _ _ hf3 (by omega) (by omega) (by simp) (by simp) (by simp) (by simp [LeLookS, ren, ren0, swp, g1, g2, g4, g7, g8, g9, g10, g11, i0, i1, i2, j1, j2]) (by simp [LeBoxesS, swpH, LeCellsS, ren, ren0, swp, celR, recR, zerR, i0, i1, i2, j1, j2, repE_leS])
    · have i0 : ([2, 1, 0] : List Nat).idxOf 0 = 2 := rfl
      have i1 : ([2, 1, 0] : List Nat).idxOf 1 = 1 := rfl
      have i2 : ([2, 1, 0] : List Nat).idxOf 2 = 0 := rfl
      rw [i2] at g9
      exact LoopK.swap 2 4 _ _ hf2 (by omega) (by omega) (by simp) (by simp) (by simp) (by simp [LeLookS, ren, ren0, swp, g1, g2, g4, g7, g8, g9, g10, g11, i0, i1, i2, j1, j2]) (by simp [LeBoxesS, swpH, LeCellsS, ren, ren0, swp, celR, recR, zerR, i0, i1, i2, j1, j2, repE_leS])
  · intro i o ho e he hb
    have hi : i < 12 := by have := (Array.getElem?_eq_some_iff.1 ho).1; simpa using this
    rcases (by omega : i = 0 ∨ i = 1 ∨ i = 2 ∨ i = 3 ∨ i = 4 ∨ i = 5 ∨ i = 6 ∨ i = 7 ∨ i = 8 ∨ i = 9 ∨ i = 10 ∨ i = 11) with rfl | rfl | rfl | rfl | rfl | rfl | rfl | rfl | rfl | rfl | rfl | rfl
    all_goals
      simp at ho
      subst ho
      simp at he
    · rcases he with rfl | rfl <;> simp
    · subst he; simp
    · subst he; simp
    · subst he; simp
    · rcases he with rfl | rfl | rfl | rfl <;> simp
    · rcases he with rfl | rfl | rfl | rfl | rfl | rfl | rfl | rfl | rfl | rfl | rfl | rfl | rfl <;> simp
end Go.Proofs.Ytgcnlmcpmocbhaa

/- The cost of a path, by the program. -/
namespace Go.Proofs.Ytgcnlmcpmocbhaa
open Go Go.Am Go.Wk

theorem cost_bd {l : List Lnk} (hl : ∀ x ∈ l, 0 ≤ x.Cost ∧ x.Cost ≤ 65535) (a b : Int) : 0 ≤ (findL l a b).1.Cost ∧ (findL l a b).1.Cost ≤ 65535 := by
  unfold findL
  cases hf : l.find? (isL a b) with
  | none => simp [lnk0]
  | some z => exact hl z (List.mem_of_find?_eq_some hf)
set_option maxHeartbeats 8000000 in
set_option maxRecDepth 10000 in
theorem c20 (l : List Lnk) (k : Nat) (hk : l.length = k) (hk2 : k < 9223372036854775807) (hl : ∀ x ∈ l, 0 ≤ x.Cost ∧ x.Cost ≤ 65535) (p : List Int) (m : Nat) (hm : p.length = m) (hm2 : m < 100000) :
    CFun Try.prog 20 [.sl 13 (l.map encL) .sh, .sl 1 (p.map encI) .sh] [] (.int .i64 (costP l p)) [] := by
  refine CFun.intro (tr := [900001000015]) (fz := []) (n := 34) (rs := [.tmp 4]) Try.func20 rfl (by kernel_rfl) rfl rfl mixed (by kernel_rfl) (by simp) (by simp) ?_
  have h5 := fun a b H => (c39 l k hk hk2 a b).up' H (by simp [noid, noid0]) (by simp [noid, noid0])
  obtain ⟨T, hT⟩ : ∃ T, T = costP l p := ⟨_, rfl⟩
  rw [← hT]
  simp
  refine LoopK.intro (tr := [900001000015]) mixed (by kernel_rfl) (fun s : Nat × Int => [(0, .sl 13 (l.map encL) .sh), (1, .sl 1 (p.map encI) .sh), (5, .int .i64 s.2), (6, .int .i64 (s.1 + 1))]) (fun _ => [])
    (fun s => (s.1 ≤ m ∧ 0 ≤ s.2 ∧ s.2 ≤ 65535 * s.1) ∧ T = s.2 + costP l (p.drop s.1)) (fun s => m - s.1) (0, 0) ?_ ?_ ?_
  · simp [hT]
  · simp
  · rintro ⟨i, sum⟩ ⟨⟨h1, h2, h3⟩, h4⟩
    simp only at h1 h2 h3 h4
    by_cases hi : i + 1 < m
    · obtain ⟨x, hx⟩ : ∃ x, p[i]? = some x := ⟨_, List.getElem?_eq_getElem (by omega)⟩
      obtain ⟨y, hy⟩ : ∃ y, p[i + 1]? = some y := ⟨_, List.getElem?_eq_getElem (by omega)⟩
      have hd : p.drop i = x :: y :: p.drop (i + 1 + 1) := by
        obtain ⟨k1, k2⟩ := List.getElem?_eq_some_iff.1 hx
        obtain ⟨k3, k4⟩ := List.getElem?_eq_some_iff.1 hy
        rw [List.drop_eq_getElem_cons k1, k2, List.drop_eq_getElem_cons k3, k4]
      have hd2 : p.drop (i + 1) = y :: p.drop (i + 1 + 1) := by
        obtain ⟨k3, k4⟩ := List.getElem?_eq_some_iff.1 hy
        rw [List.drop_eq_getElem_cons k3, k4]
      have hc := cost_bd hl x y
      have hf := h5 x y
      have e : T = (sum + (findL l x y).1.Cost) + costP l (p.drop (i + 1)) := by
        rw [h4, hd, hd2]; simp only [costP, costN]; omega
      clear h4 hd hd2
      generalize findL l x y = f at *
      obtain ⟨f, ok⟩ := f
      simp only at hc e
      have w1 : IntKind.i64.wrap ((i : Int) + 1 - 1) = i := by rw [Int.add_sub_cancel]; exact wrap_in (by omega)
      have w2 : IntKind.i64.wrap (sum + f.Cost) = sum + f.Cost := wrap_in (by omega)
      have w3 : IntKind.i64.wrap ((i : Int) + 1 + 1) = (i : Int) + 1 + 1 := wrap_in (by omega)
      have w4 : IntKind.i64.wrap (i : Int) = i := wrap_in (by omega)
      have hi' : (i : Int) + 1 < m := by omega
      have hi2 : i < m := by omega
      have hn : ((i : Int) + 1).toNat = i + 1 := by omega
      simp [hi, hi', hi2, hm, hx, gE hx, hy, gE hy, w1, w4, hn]
      refine ⟨_, by simpa [cargs] using hf [], by simp [noid, noid0, cargs], ?_⟩
      simp [w2, w3]
      exact ⟨i + 1, sum + f.Cost, ⟨⟨by omega, by omega, by omega⟩, e⟩, by omega, by simp⟩
    · have hz : costP l (p.drop i) = 0 := by
        by_cases e : i < m
        · have : (p.drop i).length = 1 := by rw [List.length_drop]; omega
          obtain ⟨a, ha⟩ := List.length_eq_one_iff.1 this
          rw [ha]; rfl
        · rw [List.drop_eq_nil_of_le (by omega)]; rfl
      have hi' : ¬ (i : Int) + 1 < m := by omega
      rw [hz, Int.add_zero] at h4
      simp [hi, hi', hm, h4]
end Go.Proofs.Ytgcnlmcpmocbhaa

/- The law of the best, by the program. -/
namespace Go.Proofs.Ytgcnlmcpmocbhaa
open Go Go.Am Go.Wk

theorem fits_cost {N : Int} {l : List Lnk} {p : List Int} {c : Con} (h : fitsR N l p c = true) : (∀ x ∈ l, 0 ≤ x.Cost ∧ x.Cost ≤ 65535) ∧ p ≠ [] := by
  obtain ⟨g1, g2, _⟩ := fitsR_inv h
  obtain ⟨n1, n2, l2, lk, cn⟩ := check_links g1
  obtain ⟨asc, _, lko⟩ := links_asc lk
  obtain ⟨M, hM⟩ : ∃ M : Nat, N = M := ⟨N.toNat, by omega⟩
  subst hM
  refine ⟨fun x hx => ?_, g2⟩
  obtain ⟨_, _, _, _, o5, o6⟩ := (link_ok (lko x hx)).1
  omega
set_option maxHeartbeats 16000000 in
set_option maxRecDepth 10000 in
theorem c6 (n : Int) (l : List Lnk) (m : Nat) (hm : l.length = m) (hm2 : m < 9223372036854775807) (pa : List Int) (k : Nat) (hk : pa.length = k) (hk2 : k < 9223372036854775807) (c : Con) (p q : Nat) (hp : c.Avoid.length = p) (hq : c.Thru.length = q) (hp2 : p < 9223372036854775807) (hq2 : q < 9223372036854775807) :
    CFun Try.prog 6 [.int .i64 n, .sl 13 (l.map encL) .sh, .sl 1 (pa.map encI) .sh, encC c] [] (.bool true) [] := by
  refine CFun.intro (tr := []) (fz := []) (n := 134) (rs := [.tmp 8]) Try.func6 rfl (by kernel_rfl) rfl rfl mixed (by kernel_rfl) (by simp) (by simp) ?_
  have h11 := fun H => c11.up' H rfl rfl
  by_cases b1 : 30 < n
  · simp [b1]
    refine ⟨_, _, .inl (by simpa using h11 _), by simp, ?_⟩
    simp
  by_cases b2 : 200 < m
  · have b2' : (200 : Int) < m := by omega
    simp [hm, b1, b2, b2']
    refine ⟨_, _, .inl (by simpa using h11 _), by simp, ?_⟩
    simp
  have b2' : ¬ (200 : Int) < m := by omega
  by_cases b3 : 3 < q
  · have b3' : (3 : Int) < q := by omega
    simp [hm, hq, b1, b2, b2', b3, b3']
    refine ⟨_, _, .inl (by simpa using h11 _), by simp, ?_⟩
    simp
  have b3' : ¬ (3 : Int) < q := by omega
  have h19 := fun H => (c19 l m hm hm2 pa k hk hk2 c p q hp hp2 hq hq2 n).up' H (by simp [noid, noid0]) rfl
  by_cases b4 : fitsR n l pa c = true
  case neg =>
    have b4' : fitsR n l pa c = false := by simpa using b4
    rw [b4'] at h19
    simp [hm, hq, b1, b2, b2', b3, b3']
    refine ⟨_, _, .inl (by simpa using h19 _), by simp, ?_⟩
    simp
    refine ⟨_, _, .inl (by simpa using h11 _), by simp, ?_⟩
    simp
  obtain ⟨hcost, hne⟩ := fits_cost b4
  have hk1 : 0 < k := by rw [← hk]; exact List.length_pos_iff.2 hne
  obtain ⟨fr, hfr⟩ : ∃ x, pa[0]? = some x := ⟨_, List.getElem?_eq_getElem (by omega)⟩
  obtain ⟨to, hto⟩ : ∃ x, pa[k - 1]? = some x := ⟨_, List.getElem?_eq_getElem (by omega)⟩
  have hbl := best_law b4 hfr (by rw [hk]; exact hto)
  have hpl : k < 100000 := by
    have := (fitsR_inv b4)
    obtain ⟨g1, g2, g3, g4, _⟩ := this
    obtain ⟨n1, n2, _⟩ := check_links g1
    have hnd : pa.Nodup := by
      cases Classical.em pa.Nodup with
      | inl h => exact h
      | inr h => rw [(repB_iff pa).2 h] at g4; cases g4
    have hl := nodup_length (l := pa.map Int.toNat) (n := n.toNat) (by
      unfold List.Nodup at hnd ⊢
      rw [List.pairwise_map]
      refine hnd.imp_of_mem ?_
      intro a b ha hb h e
      rw [List.any_eq_false] at g3
      have q1 := g3 a ha
      have q2 := g3 b hb
      simp only [outN, Bool.or_eq_true, decide_eq_true_eq] at q1 q2
      omega) (fun x hx => by
      obtain ⟨a, ha, rfl⟩ := List.mem_map.1 hx
      rw [List.any_eq_false] at g3
      have q1 := g3 a ha
      simp only [outN, Bool.or_eq_true, decide_eq_true_eq] at q1
      omega)
    simp only [List.length_map] at hl
    omega
  rw [b4] at h19
  have h15 := fun H => (c15 l m hm hm2 c p q hp hq hp2 hq2 n fr to).up' H (by simp [noid, noid0]) rfl
  have hRl := routeN_len n l fr to c
  generalize routeN n l fr to c = R at *
  obtain ⟨R, x, e⟩ := R
  simp only at hbl hRl
  obtain ⟨r, hr⟩ : ∃ r, R.length = r := ⟨_, rfl⟩
  rw [hr] at hRl
  have w1 : IntKind.i64.wrap ((k : Int) - 1) = ((k - 1 : Nat) : Int) := by
    rw [show ((k - 1 : Nat) : Int) = (k : Int) - 1 by omega]; exact wrap_in (by omega)
  have hk1' : k - 1 < k := by omega
  simp [hm, hq, b1, b2, b2', b3, b3']
  refine ⟨_, _, .inl (by simpa using h19 _), by simp, ?_⟩
  simp [hk, hk1, hk1', hfr, gE hfr, hto, gE hto, w1]
  refine ⟨_, _, .inl (by simpa using h15 _), by simp, ?_⟩
  rcases hbl with ⟨he, ht⟩ | ⟨he, hfit, hx, hle, heq, hR0, hR1⟩
  · subst he
    have ht' : 0 < q := by omega
    simp
    refine ⟨_, _, .inl (by simpa using h11 _), by simp, ?_⟩
    simp [hq, ht']
  subst he
  have hr1 : 0 < r := by
    rw [← hr]; exact (List.getElem?_eq_some_iff.1 hR0).1
  rw [hr] at hR1
  have h20 := fun H => (c20 l m hm hm2 hcost pa k hk hpl).up' H rfl rfl
  have h20R := fun H => (c20 l m hm hm2 hcost R r hr (by omega)).up' H rfl rfl
  have h19R := fun H => (c19 l m hm hm2 R r hr (by omega) c p q hp hp2 hq hq2 n).up' H (by simp [noid, noid0]) rfl
  have h21 := fun H => (c21 R pa r k hr hk (by omega) (by omega)).up' H rfl rfl
  rw [hfit] at h19R
  rw [← hx] at h20R
  rw [hr, hk] at heq
  generalize costP l pa = y at *
  clear hx
  have w2 : IntKind.i64.wrap ((r : Int) - 1) = ((r - 1 : Nat) : Int) := by
    rw [show ((r - 1 : Nat) : Int) = (r : Int) - 1 by omega]; exact wrap_in (by omega)
  have hr2 : r - 1 < r := by omega
  have hle' : ¬ y < x := by omega
  simp
  refine ⟨_, _, .inl (by simpa using h20 _), by simp, ?_⟩
  simp
  refine ⟨_, _, .inl (by simpa using h19R _), by simp, ?_⟩
  simp
  refine ⟨_, _, .inl (by simpa using h20R _), by simp, ?_⟩
  by_cases g : x = y
  · obtain ⟨k1, k2⟩ := heq g
    subst g
    have k1' : ¬ (k : Int) < r := by omega
    by_cases g2 : r = k
    · have k3 := k2 g2
      subst g2
      have k3' : ¬ 0 < cmpI R pa := k3
      generalize cmpI R pa = z at *
      simp [hr, hk, k1']
      refine ⟨_, _, .inl (by simpa using h21 _), by simp, ?_⟩
      simp [k3']
      refine ⟨_, _, .inl (by simpa using h11 _), by simp, ?_⟩
      simp [hr, hk, hr1, hr2, hk1, hk1', hfr, gE hfr, hto, gE hto, hR0, gE hR0, hR1, gE hR1, w1, w2]
    · have g2' : ¬ (r : Int) = k := by omega
      simp [hr, hk, k1', g2, g2']
      refine ⟨_, _, .inl (by simpa using h11 _), by simp, ?_⟩
      simp [hr, hk, hr1, hr2, hk1, hk1', hfr, gE hfr, hto, gE hto, hR0, gE hR0, hR1, gE hR1, w1, w2]
  · simp [hle', g]
    refine ⟨_, _, .inl (by simpa using h11 _), by simp, ?_⟩
    simp [hr, hk, hr1, hr2, hk1, hk1', hfr, gE hfr, hto, gE hto, hR0, gE hR0, hR1, gE hR1, w1, w2]
end Go.Proofs.Ytgcnlmcpmocbhaa

/- The law of the plain distance, by the program. -/
namespace Go.Proofs.Ytgcnlmcpmocbhaa
open Go Go.Am Go.Wk

set_option maxHeartbeats 16000000 in
set_option maxRecDepth 10000 in
theorem c7 (n : Int) (l : List Lnk) (m : Nat) (hm : l.length = m) (hm2 : m < 9223372036854775807) (fr to : Int) :
    CFun Try.prog 7 [.int .i64 n, .sl 13 (l.map encL) .sh, .int .i64 fr, .int .i64 to] [] (.bool true) [] := by
  refine CFun.intro (tr := [59]) (fz := []) (n := 115) (rs := [.tmp 8]) Try.func7 rfl (by kernel_rfl) rfl rfl mixed (by kernel_rfl) (by simp) (by simp) ?_
  have h11 := fun H => c11.up' H rfl rfl
  by_cases b1 : 20 < n
  · simp [b1]
    refine ⟨_, _, .inl (by simpa using h11 _), by simp, ?_⟩
    simp
  by_cases b2 : 100 < m
  · have b2' : (100 : Int) < m := by omega
    simp [hm, b1, b2, b2']
    refine ⟨_, _, .inl (by simpa using h11 _), by simp, ?_⟩
    simp
  have b2' : ¬ (100 : Int) < m := by omega
  have k13 : ∀ H, CFun Try.prog 13 [.int .i64 n, .sl 13 (l.map encL) .sh, .agg [.int .i64 0, .int .i64 0, .int .i64 0, .int .u32 0, .int .u32 0, .int .i64 0, .sl 0 [] .full, .sl 0 [] .full]] H (.int .i64 (checkE n l conZ)) H := fun H =>
    ((c13 l m hm hm2 conZ n 0 0 rfl rfl (by decide) (by decide)).wk [.int .i64 n, .sl 13 (l.map encL) .sh, .agg [.int .i64 0, .int .i64 0, .int .i64 0, .int .u32 0, .int .u32 0, .int .i64 0, .sl 0 [] .full, .sl 0 [] .full]] (by simp [noid, noid0]) ⟨LeS_refl _, LeS_refl _, by simp [conZ, LeS, LeC], trivial⟩).up' H rfl rfl
  have k15 : ∀ H, CFun Try.prog 15 [.int .i64 n, .sl 13 (l.map encL) .sh, .int .i64 fr, .int .i64 to, .agg [.int .i64 0, .int .i64 0, .int .i64 0, .int .u32 0, .int .u32 0, .int .i64 0, .sl 0 [] .full, .sl 0 [] .full]] H (encRt (routeN n l fr to conZ)) H := fun H =>
    ((c15 l m hm hm2 conZ 0 0 rfl rfl (by decide) (by decide) n fr to).wk [.int .i64 n, .sl 13 (l.map encL) .sh, .int .i64 fr, .int .i64 to, .agg [.int .i64 0, .int .i64 0, .int .i64 0, .int .u32 0, .int .u32 0, .int .i64 0, .sl 0 [] .full, .sl 0 [] .full]] (by simp [noid, noid0]) ⟨LeS_refl _, LeS_refl _, LeS_refl _, LeS_refl _, by simp [conZ, LeS, LeC], trivial⟩).up' H rfl rfl
  by_cases b3 : checkE n l conZ = 0
  case neg =>
    generalize checkE n l conZ = e at *
    simp [hm, b1, b2, b2']
    refine ⟨_, _, .inl (by simpa using k13 _), by simp, ?_⟩
    simp [b3]
    refine ⟨_, _, .inl (by simpa using h11 _), by simp, ?_⟩
    simp
  obtain ⟨N, hN⟩ : ∃ N : Nat, n = N := ⟨n.toNat, by have := (check_links b3).1; omega⟩
  subst hN
  obtain ⟨n1, n2, l2, lk, cn⟩ := check_links b3
  obtain ⟨hasc, _, lko⟩ := links_asc lk
  have hok : ∀ x ∈ l, okLk N x ∧ x.From ≠ x.To := fun x hx => link_ok (lko x hx)
  have hpl := fun h1 h2 => plain_law (N := N) (l := l) (fr := fr) (to := to) b3 h1 h2
  rw [b3] at k13
  have aw : ∀ H, CFun Try.prog 11 [] H (.bool true) H := h11
  by_cases b4 : fr < 0
  · simp [hm, b1, b2, b2']
    refine ⟨_, _, .inl (by simpa using k13 _), by simp, ?_⟩
    simp [b4]
    refine ⟨_, _, .inl (by simpa using h11 _), by simp, ?_⟩
    simp
  by_cases b5 : (N : Int) ≤ fr
  · simp [hm, b1, b2, b2']
    refine ⟨_, _, .inl (by simpa using k13 _), by simp, ?_⟩
    simp [b4, b5]
    refine ⟨_, _, .inl (by simpa using h11 _), by simp, ?_⟩
    simp
  by_cases b6 : to < 0
  · simp [hm, b1, b2, b2']
    refine ⟨_, _, .inl (by simpa using k13 _), by simp, ?_⟩
    simp [b4, b5, b6]
    refine ⟨_, _, .inl (by simpa using h11 _), by simp, ?_⟩
    simp
  by_cases b7 : (N : Int) ≤ to
  · simp [hm, b1, b2, b2']
    refine ⟨_, _, .inl (by simpa using k13 _), by simp, ?_⟩
    simp [b4, b5, b6, b7]
    refine ⟨_, _, .inl (by simpa using h11 _), by simp, ?_⟩
    simp
  obtain ⟨r, rfl⟩ : ∃ r : Nat, fr = r := ⟨fr.toNat, by omega⟩
  obtain ⟨t, rfl⟩ : ∃ t : Nat, to = t := ⟨to.toNat, by omega⟩
  have hrN : r < N := by omega
  have htN : t < N := by omega
  have htI : (t : Int) < N := by omega
  have hp := hpl (by simp [outN]; omega) (by simp [outN]; omega)
  have k22 := c22 N (by omega) (by omega) l m hm (by omega) hok hasc r hrN
  simp only [distF, Int.toNat_natCast] at hp
  generalize hD : allF N (edgF l begF) = D at *
  generalize hR : routeN N l r t conZ = R at *
  obtain ⟨ys, x, e⟩ := R
  simp only at hp
  have k22' : CFun Try.prog 22 [.agg (cellsG N l), .int .i64 r] [[.int .i64 N, .int .i64 0, .sl 3 (l.map encEd) .own]] (.tup [.mix [.int .i64 r, .sl 1 (rwD N (D r)) .sh, .osl 3 0 N (some N) 1, .osl 4 0 N (some N) 1], .int .i64 0]) [[.int .i64 N, .int .i64 0, .sl 3 (l.map encEd) .own], [], [], [], []] := by
    have := k22.upAll [[.int .i64 N, .int .i64 0, .sl 3 (l.map encEd) .own]] (by simp) (by simp [noid, noid0]) (by simp [low, low0, low00])
    simpa [ren, ren0, ren00, grow] using this
  simp only [cellsG] at k22'
  have b4' : ¬ ((r : Int) < 0) := by omega
  have b6' : ¬ ((t : Int) < 0) := by omega
  have hDl := fun f => rwD_len N f
  have hDg := fun k f h => rwD_getE (n := N) (k := k) (f := f) h
  simp [hm, b1, b2, b2']
  refine ⟨_, _, .inl (by simpa using k13 _), by simp, ?_⟩
  simp [b4, b5, b6, b7, hm]
  refine LoopK.intro (tr := [59]) mixed (by kernel_rfl)
    (fun i : Nat => [(0, .int .i64 N), (1, .sl 13 (l.map encL) .sh), (2, .int .i64 r), (3, .int .i64 t), (9, .ptr 0 0), (52, .sl 13 (l.map encL) .sh), (53, .int .i64 m), (54, .int .i64 i)])
    (fun i => [[.int .i64 N, .int .i64 0, .sl 3 ((l.take i).map encEd) .own]]) (fun i => i ≤ m) (fun i => m - i) 0 ?_ ?_ ?_
  · exact Nat.zero_le _
  · simp [LeV, LeS]
  · rintro i im
    by_cases hi : i < m
    · obtain ⟨x, hx⟩ : ∃ x, l[i]? = some x := ⟨l[i]'(by omega), List.getElem?_eq_getElem _⟩
      have hxi : ∀ h : i < l.length, l[i] = x := fun h => getE h hx
      have hil : i < l.length := by omega
      have hiI : (i : Int) < m := by omega
      have w1 : IntKind.i64.wrap ((i : Int) + 1) = i + 1 := wrap_in (by omega)
      have ht : (l.take (i + 1)).map encEd = (l.take i).map encEd ++ [encEd x] := by
        rw [List.take_add_one, hx]; simp
      have htl : min i m = i := by omega
      have b8 : (i + 1) * 24 ≤ 140737488355328 := by omega
      have b9 : i ≤ 140737488355327 := by omega
      have him : i + 1 ≤ m := hi
      generalize hQ : LoopPost _ _ _ _ _ _ _ = Q
      simp [hi, hiI, hx, hxi, hil, hm, w1, htl, b8, b9]
      rw [← hQ]
      simp only [LoopPost]
      refine ⟨i + 1, hi, by omega, ?_⟩
      rw [ht]
      simp [LeCells]
    · have him : i = m := by omega
      subst him
      have htk : l.take i = l := by rw [List.take_of_length_le]; omega
      rw [htk]
      simp
      refine ⟨_, _, .inl (by simpa using k22'), by simp, ?_⟩
      simp
      refine ⟨_, _, .inl (by simpa using k15 _), by simp, ?_⟩
      by_cases d0 : D r t < 0
      · have := hp.1 d0
        obtain ⟨rfl, rfl, rfl⟩ : ys = [] ∧ x = 0 ∧ e = 20 := by simpa using this
        simp [hDl, hDg, htN, htI, d0]
        refine ⟨_, _, .inl (by simpa using h11 _), by simp, ?_⟩
        simp
      · have := hp.2 (by omega)
        obtain ⟨rfl, rfl⟩ : x = D r t ∧ e = 0 := by simpa using this
        simp [hDl, hDg, htN, htI, d0]
        refine ⟨_, _, .inl (by simpa using h11 _), by simp, ?_⟩
        simp [hDl, hDg, htN, htI]
end Go.Proofs.Ytgcnlmcpmocbhaa
