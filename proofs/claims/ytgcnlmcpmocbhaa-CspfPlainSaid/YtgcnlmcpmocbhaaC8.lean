/- The search: least costs of so many steps, by the program. -/
import Derived.Test.YtgcnlmcpmocbhaaC36
import Derived.Test.YtgcnlmcpmocbhaaC7
set_option linter.unusedSimpArgs false
set_option linter.unusedVariables false
namespace Go.Proofs.Ytgcnlmcpmocbhaa
open Go Go.Am Go.Wk

def encF (r : List Int) : AVal := .sl 1 (rowZ r) .sh
theorem rowZ_map (r : List Int) : rowZ r = r.map encI := rfl
set_option maxHeartbeats 4000000 in
set_option maxRecDepth 10000 in
theorem c72a (rows : List (List Int)) (N h : Nat) (prev row : List Int) (hp : rows[h]? = some prev) (hpl : prev.length = N) (hrl : row.length = N) (hb : ∀ v ∈ prev, -1 ≤ v ∧ v < 1099511627776) (a : Nat × Nat × Nat) (hx : a.1 < N) (hy : a.2.1 < N) (hc : a.2.2 ≤ 65535) :
    CFun Try.prog 72 [.int .i64 a.1, .int .i64 a.2.1, .int .i64 a.2.2, .ptr 0 0, .ptr 1 0, .ptr 3 0] [[.sl 1 (rows.map encF) .own], [.int .i64 h], rowZ row, [.osl 2 0 N (some N) 1]] (.tup []) [[.sl 1 (rows.map encF) .own], [.int .i64 h], rowZ (relR prev row a), [.osl 2 0 N (some N) 1]] := by
  refine CFun.intro (tr := []) (fz := []) (n := 42) (rs := []) Try.func72 rfl (by kernel_rfl) rfl rfl mixed (by kernel_rfl) (by simp) (by simp) ?_
  obtain ⟨x, y, c⟩ := a
  simp only at hx hy hc ⊢
  have e1 := getD_ofI (l := prev) (i := y) (by omega)
  have q1 := hb _ (List.mem_of_getElem? e1)
  have e2 := getD_ofI (l := row) (i := x) (by omega)
  have hrow := rowZ_set row x (prev.getD y 0 + c)
  unfold relR
  simp only
  generalize prev.getD y 0 = v at *
  generalize row.getD x 0 = u at *
  have r1 := rowZ_get e1
  have r2 := rowZ_get e2
  have hh : h < rows.length := (List.getElem?_eq_some_iff.1 hp).1
  have w1 : IntKind.i64.wrap (v + c) = v + c := wrap_in (by omega)
  have l1 := fun m => leI m row
  have l2 := fun m => leI m (row.set x (v + c))
  have hlen1 := rowZ_len prev
  have hlen2 := rowZ_len row
  have hx1 : x + 1 ≤ N := hx
  by_cases h1 : 0 ≤ v
  · by_cases h2 : u < 0
    · rw [if_pos ⟨h1, .inl h2⟩]
      simp [encF, hp, gE hp, hh, hpl, hrl, hx, hx1, hy, r1, r2, gE r1, gE r2, hrow, w1, h1, h2, l1, l2]
    · by_cases h3 : v + c < u
      · rw [if_pos ⟨h1, .inr h3⟩]
        simp [encF, hp, gE hp, hh, hpl, hrl, hx, hx1, hy, r1, r2, gE r1, gE r2, hrow, w1, h1, h2, h3, l1, l2]
      · rw [if_neg (by rintro ⟨_, h | h⟩ <;> omega)]
        simp [encF, hp, gE hp, hh, hpl, hrl, hx, hx1, hy, r1, r2, gE r1, gE r2, hrow, w1, h1, h2, h3, l1, l2]
  · rw [if_neg (by rintro ⟨h, _⟩; exact h1 h)]
    simp [encF, hp, gE hp, hh, hpl, hrl, hx, hx1, hy, r1, r2, gE r1, gE r2, hrow, w1, h1, l1, l2]
set_option maxHeartbeats 8000000 in
set_option maxRecDepth 10000 in
theorem c62x (ls : List Lnk) (th : List Int) (n t : Nat) (hn : n ≤ 128) (hth : th.length ≤ 64) (hls : ∀ x ∈ ls, okLk n x) (L : Nat) (hL : ls.length = L) (hL2 : L ≤ 1024) (K : Nat) (hK : th.length + 1 = K) (g : FuncId) (sz : Nat) (Dr : List AVal) (h : Nat) (R : Nat → List AVal) (hR : ∀ m j, LeCells m (R j) (R j))
    (hcl : ∀ k < K, ∀ i x, ls[i]? = some x → ∀ Z, CFun Try.prog g ([.int .i64 ((arcN th n k x).1 : Nat), .int .i64 ((arcN th n k x).2.1 : Nat), .int .i64 ((arcN th n k x).2.2 : Nat)] ++ [.ptr 3 0, .ptr 4 0, .ptr 6 0]) (sC ls th n t :: [] :: [] :: [.sl 1 Dr .own] :: [.int .i64 h] :: R (k * L + i) :: [.osl 5 0 sz (some sz) 1] :: Z) (.tup []) (sC ls th n t :: [] :: [] :: [.sl 1 Dr .own] :: [.int .i64 h] :: R (k * L + i + 1) :: [.osl 5 0 sz (some sz) 1] :: Z)) :
    CFun Try.prog 62 [.ptr 0 0, .fn g [] [.ptr 3 0, .ptr 4 0, .ptr 6 0]] [sC ls th n t, [], [], [.sl 1 Dr .own], [.int .i64 h], R 0, [.osl 5 0 sz (some sz) 1]] (.tup []) [sC ls th n t, [], [], [.sl 1 Dr .own], [.int .i64 h], R (K * L), [.osl 5 0 sz (some sz) 1]] := by
  refine CFun.intro (tr := [6500038]) (fz := []) (n := 41) (rs := []) Try.func62 rfl (by kernel_rfl) rfl rfl mixed (by kernel_rfl) (by simp) (by simp) ?_
  have h70 := fun a k ha hk Z => at0 (c70 ls th n t a k hn ha hk) rfl rfl rfl Z
  have h49 := fun a k ha hk Z => at0 (c49 ls th n t a k hn ha hth hk) rfl rfl rfl Z
  have w1 : IntKind.i64.wrap ((th.length : Int) + 1) = K := by rw [← hK]; exact wrap_in (by omega)
  simp only [sC] at *
  simp [w1]
  refine LoopK.intro (tr := [6500038]) mixed (by kernel_rfl) (fun k : Nat => [(0, .ptr 0 0), (1, .fn g [] [.ptr 3 0, .ptr 4 0, .ptr 6 0]), (12, .int .i64 K), (13, .int .i64 k)]) (fun k => [[.sl 13 (ls.map encL) .own, .sl 1 (th.map encI) .sh, .int .i64 n, .int .i64 t], [], [], [.sl 1 Dr .own], [.int .i64 h], R (k * L), [.osl 5 0 sz (some sz) 1]]) (fun k => k ≤ K) (fun k => K - k) 0 ?_ ?_ ?_
  · simp
  · simp [hR]
  · intro k hk
    by_cases hk2 : k < K
    case neg =>
      have : k = K := by omega
      subst this
      simp [hR]
    have w2 : IntKind.i64.wrap ((k : Int) + 1) = k + 1 := wrap_in (by omega)
    simp [hk2, hL]
    refine LoopK.intro (tr := [6500038]) mixed (by kernel_rfl) (fun i : Nat => [(0, .ptr 0 0), (1, .fn g [] [.ptr 3 0, .ptr 4 0, .ptr 6 0]), (12, .int .i64 K), (13, .int .i64 k), (4, .int .i64 k), (19, .sl 13 (ls.map encL) .sh), (20, .int .i64 L), (21, .int .i64 i)]) (fun i => [[.sl 13 (ls.map encL) .own, .sl 1 (th.map encI) .sh, .int .i64 n, .int .i64 t], [], [], [.sl 1 Dr .own], [.int .i64 h], R (k * L + i), [.osl 5 0 sz (some sz) 1]]) (fun i => i ≤ L) (fun i => L - i) 0 ?_ ?_ ?_
    · simp
    · simp [hR]
    · intro i hi
      by_cases hi2 : i < L
      case neg =>
        have : i = L := by omega
        subst this
        have e : k * i + i = (k + 1) * i := by rw [Nat.succ_mul]
        simp [w2]
        exact ⟨k + 1, by omega, by omega, by simp [hR, e]⟩
      have hx : ls[i]? = some (ls[i]'(by omega)) := List.getElem?_eq_getElem (by omega)
      obtain ⟨x, hx'⟩ : ∃ x, x = ls[i]'(by omega) := ⟨_, rfl⟩
      rw [← hx'] at hx
      obtain ⟨o1, o2, o3, o4, o5, o6⟩ := hls x (List.mem_of_getElem? hx)
      have w3 : IntKind.i64.wrap ((i : Int) + 1) = i + 1 := wrap_in (by omega)
      have hc := hcl k hk2 i x hx
      simp only [arcN] at hc
      have e1 : x.From = ((x.From.toNat : Nat) : Int) := by omega
      have e2 : x.To = ((x.To.toNat : Nat) : Int) := by omega
      have e3 : x.Cost = ((x.Cost.toNat : Nat) : Int) := by omega
      simp [hi2, hL, hx, gE hx]
      refine ⟨_, _, .inl (by rw [e1]; simpa using h70 x.From.toNat k (by omega) (by omega) _), by simp, ?_⟩
      simp
      refine ⟨_, _, .inl (by rw [e2]; simpa using h49 x.To.toNat k (by omega) (by omega) _), by simp, ?_⟩
      simp
      refine ⟨_, _, .inl (by rw [e3]; simpa using hc _), by simp [hR], ?_⟩
      simp [w3]
      exact ⟨i + 1, by omega, by omega, by simp [hR, Nat.add_assoc]⟩
/-- Four variables of a closure, among others. -/
theorem at72 {rows : List (List Int)} {N h : Nat} {row row' : List Int} {x y c : Int} (hcf : CFun Try.prog 72 [.int .i64 x, .int .i64 y, .int .i64 c, .ptr 0 0, .ptr 1 0, .ptr 3 0] [[.sl 1 (rows.map encF) .own], [.int .i64 h], rowZ row, [.osl 2 0 N (some N) 1]] (.tup []) [[.sl 1 (rows.map encF) .own], [.int .i64 h], rowZ row', [.osl 2 0 N (some N) 1]])
    (a b d : List AVal) (Z : List (List AVal)) : CFun Try.prog 72 [.int .i64 x, .int .i64 y, .int .i64 c, .ptr 3 0, .ptr 4 0, .ptr 6 0] (a :: b :: d :: [.sl 1 (rows.map encF) .own] :: [.int .i64 h] :: rowZ row :: [.osl 5 0 N (some N) 1] :: Z) (.tup []) (a :: b :: d :: [.sl 1 (rows.map encF) .own] :: [.int .i64 h] :: rowZ row' :: [.osl 5 0 N (some N) 1] :: Z) := by
  have h4 : ∀ i, i < 4 → i = 0 ∨ i = 1 ∨ i = 2 ∨ i = 3 := by omega
  have := hcf.lift (fun i => i + 3) (H := a :: b :: d :: [.sl 1 (rows.map encF) .own] :: [.int .i64 h] :: rowZ row :: [.osl 5 0 N (some N) 1] :: Z) (H' := a :: b :: d :: [.sl 1 (rows.map encF) .own] :: [.int .i64 h] :: rowZ row' :: [.osl 5 0 N (some N) 1] :: Z)
    (fun i hi => by simp at hi ⊢; omega) (fun i j hi hj e => by simpa using e)
    (fun i cs hi => by
      have hi4 : i < 4 := (List.getElem?_eq_some_iff.1 hi).1
      rcases h4 i hi4 with rfl | rfl | rfl | rfl <;> simp only [List.getElem?_cons_zero, List.getElem?_cons_succ, Option.some.injEq] at hi <;> subst hi
      · exact ⟨rfl, rfl⟩
      · exact ⟨rfl, rfl⟩
      · rw [ren_rowZ]; exact ⟨rfl, low_rowZ _ _⟩
      · exact ⟨rfl, rfl⟩)
    rfl (by simp)
    (fun i cs hi => by
      have hi4 : i < 4 := (List.getElem?_eq_some_iff.1 hi).1
      rcases h4 i hi4 with rfl | rfl | rfl | rfl <;> simp only [List.getElem?_cons_zero, List.getElem?_cons_succ, Option.some.injEq] at hi <;> subst hi
      · exact ⟨rfl, rfl⟩
      · exact ⟨rfl, rfl⟩
      · rw [ren_rowZ]; exact ⟨rfl, low_rowZ _ _⟩
      · exact ⟨rfl, rfl⟩)
    (fun k hk hne => by
      have e0 := hne 0 (by simp)
      have e1 := hne 1 (by simp)
      have e2 := hne 2 (by simp)
      have e3 := hne 3 (by simp)
      match k, e0, e1, e2, e3 with
      | 0, _, _, _, _ => rfl
      | 1, _, _, _, _ => rfl
      | 2, _, _, _, _ => rfl
      | 3, e, _, _, _ => exact absurd rfl e
      | 4, _, e, _, _ => exact absurd rfl e
      | 5, _, _, e, _ => exact absurd rfl e
      | 6, _, _, _, e => exact absurd rfl e
      | k + 7, _, _, _, _ => rfl)
    rfl
  exact this
theorem encO_b {E : List Arc} (hE : ∀ a ∈ E, a.2.2 ≤ 65535) {z sz h : Nat} (hh : h ≤ 8320) : ∀ v ∈ mnRow E z sz h, -1 ≤ v ∧ v < 1099511627776 := by
  intro v hv
  unfold mnRow at hv
  obtain ⟨x, _, rfl⟩ := List.mem_map.1 hv
  cases e : mnO E z h x with
  | none => simp [encO]
  | some c =>
    obtain ⟨⟨ys, h1, h2⟩, _⟩ := mnO_spec e
    have := h1.cost hE
    have : ys.length * 65535 ≤ 8320 * 65535 := Nat.mul_le_mul_right _ (by omega)
    simp only [encO]
    omega
set_option maxHeartbeats 1000000 in
theorem c62r (ls : List Lnk) (th : List Int) (n t : Nat) (hn : n ≤ 128) (hth : th.length ≤ 64) (hls : ∀ x ∈ ls, okLk n x) (hL2 : ls.length ≤ 1024) (sz : Nat) (hsz : n * (th.length + 1) = sz) (z h : Nat) (hh : h ≤ 8320) (rows : List (List Int)) (hr : rows[h]? = some (mnRow (arcsN ls th n) z sz h)) :
    CFun Try.prog 62 [.ptr 0 0, .fn 72 [] [.ptr 3 0, .ptr 4 0, .ptr 6 0]] [sC ls th n t, [], [], [.sl 1 (rows.map encF) .own], [.int .i64 h], rowZ (List.replicate sz (-1)), [.osl 5 0 sz (some sz) 1]] (.tup []) [sC ls th n t, [], [], [.sl 1 (rows.map encF) .own], [.int .i64 h], rowZ (mnRow (arcsN ls th n) z sz (h + 1)), [.osl 5 0 sz (some sz) 1]] := by
  have hal := arcs_len ls th n
  have hE : ∀ a ∈ arcsN ls th n, a.1 < sz ∧ a.2.1 < sz := fun a ha => by rw [← hsz]; exact ⟨(arcs_bound hls ha).1, (arcs_bound hls ha).2.1⟩
  have hE4 : ∀ a ∈ arcsN ls th n, a.2.2 ≤ 65535 := fun a ha => (arcs_bound hls ha).2.2.2
  have hfin := foldRow_all (z := z) (h := h) hE
  have hf := fun j hj => foldRow (z := z) (h := h) hE j hj
  have hb := encO_b (z := z) (sz := sz) hE4 hh
  have hml := mnRow_len (arcsN ls th n) z sz h
  generalize hprev : mnRow (arcsN ls th n) z sz h = prev at *
  have hh' := c62x ls th n t hn hth hls ls.length rfl hL2 (th.length + 1) rfl 72 sz (rows.map encF) h (fun j => rowZ (((arcsN ls th n).take j).foldl (relR prev) (List.replicate sz (-1)))) (fun m j => leI m _) (fun k hk i x hx Z => ?_)
  · rw [← hal, List.take_of_length_le (Nat.le_refl _), hfin] at hh'
    exact hh'
  · have hg := arcs_get (n := n) hk hx
    have hj : k * ls.length + i < (arcsN ls th n).length := (List.getElem?_eq_some_iff.1 hg).1
    have hrl := (hf (k * ls.length + i) (by omega)).len
    have ht : (arcsN ls th n).take (k * ls.length + i + 1) = (arcsN ls th n).take (k * ls.length + i) ++ [arcN th n k x] := by rw [List.take_add_one, hg]; rfl
    have hm := List.mem_of_getElem? hg
    have hc := c72a rows sz h prev _ hr hml hrl hb (arcN th n k x) (hE _ hm).1 (hE _ hm).2 (hE4 _ hm)
    rw [ht, List.foldl_append]
    exact at72 hc _ _ _ Z
end Go.Proofs.Ytgcnlmcpmocbhaa

/- The search: least costs of so many steps, by the program: all rows. -/
namespace Go.Proofs.Ytgcnlmcpmocbhaa
open Go Go.Am Go.Wk

noncomputable def mnRows (E : List Arc) (z sz m : Nat) : List (List Int) := (List.range m).map (mnRow E z sz)
theorem mnRows_get (E : List Arc) (z sz : Nat) {m h : Nat} (hh : h < m) : (mnRows E z sz m)[h]? = some (mnRow E z sz h) := by simp [mnRows, hh]
theorem mnRows_succ (E : List Arc) (z sz m : Nat) : mnRows E z sz (m + 1) = mnRows E z sz m ++ [mnRow E z sz m] := by simp [mnRows, List.range_succ]
theorem mnRows_len (E : List Arc) (z sz m : Nat) : (mnRows E z sz m).length = m := by simp [mnRows]
theorem chunkZ (l : List Int) (n : Nat) (h : l.length = n) : chunk false (rowZ l) 0 1 n = rowZ l := by
  apply List.ext_getElem?
  intro i
  simp only [chunk, List.getElem?_map]
  by_cases hi : i < n
  · have hg : (rowZ l)[i]? = some (.int .i64 (l.getD i 0)) := rowZ_get (getD_ofI (by omega))
    rw [List.getElem?_range hi, hg]
    simp [hg]
  · rw [List.getElem?_eq_none (by simp; omega), List.getElem?_eq_none (by simp; omega)]
    rfl
theorem repAll (N : Nat) (h0 : 0 < N) (hN : N < 1000000) (H : List (List AVal)) : CFun Try.prog 71 [.sl 1 [.int .i64 (-1)] .full, .int .i64 N] H (.osl H.length 0 N (some N) 1) (H ++ [rowZ (List.replicate N (-1))]) := by
  have := (c71 N h0 hN).upAll H (by simp [rowZ]; exact .inr rfl) rfl rfl
  have e : ren (grow id 0 H.length) (.osl 0 0 N (some N) 1) = .osl H.length 0 N (some N) 1 := by simp [ren, ren0, grow]
  rw [e] at this
  exact this
set_option maxHeartbeats 8000000 in
set_option maxRecDepth 10000 in
theorem c52 (ls : List Lnk) (th : List Int) (n t : Nat) (h0 : 0 < n) (hn : n ≤ 128) (ht : t < n) (hth : th.length ≤ 64) (hls : ∀ x ∈ ls, okLk n x) (hL2 : ls.length ≤ 1024) (sz : Nat) (hsz : n * (th.length + 1) = sz) (z : Nat) (hz : th.length * n + t = z) (most : Nat) (hm : most < 8320) :
    CFun Try.prog 52 [.ptr 0 0, .int .i64 most] [sC ls th n t] (.sl 1 ((mnRows (arcsN ls th n) z sz (most + 1)).map encF) .sh) [sC ls th n t] := by
  refine CFun.intro (tr := [100023, 5502000000002, 5503000200004, 40, 10506000000010]) (fz := []) (n := 46) (rs := [.tmp 4]) Try.func52 rfl (by kernel_rfl) rfl rfl mixed (by kernel_rfl) (by simp) (by simp) ?_
  have hb : sz ≤ 128 * 65 := by rw [← hsz]; exact Nat.mul_le_mul hn (by omega)
  have hzs : z < sz := by rw [← hz, ← hsz, Nat.mul_comm n, Nat.succ_mul]; omega
  have hsp : 0 < sz := by omega
  have w1 : IntKind.i64.wrap ((th.length : Int) + 1) = (th.length : Int) + 1 := wrap_in (by omega)
  have w2 : IntKind.i64.wrap ((n : Int) * ((th.length : Int) + 1)) = (sz : Int) := by
    have : (n : Int) * ((th.length : Int) + 1) = ((n * (th.length + 1) : Nat) : Int) := by rw [Int.natCast_mul]; rfl
    rw [this, hsz]
    exact wrap_in (by omega)
  have h66 := fun Z => at0 (c66 ls th n t hn (by omega) hth) rfl rfl rfl Z
  rw [hz] at h66
  have h62 := fun h hh rows hr => c62r ls th n t hn hth hls hL2 sz hsz z h hh rows hr
  have hrep := fun H => repAll sz hsp (by omega) H
  have hz0 := mnRow_zero (arcsN ls th n) z hzs
  simp only [sC] at *
  simp [w1, w2]
  refine ⟨_, _, .inl (by simpa using hrep _), by simp, ?_⟩
  simp
  refine ⟨_, _, .inl (by simpa using h66 _), by simp, ?_⟩
  have hs1 : z + 1 ≤ sz := hzs
  have hset := rowZ_set (List.replicate sz (-1)) z 0
  rw [hz0] at hset
  have hrl := rowZ_len (mnRow (arcsN ls th n) z sz 0)
  rw [mnRow_len] at hrl
  have htr := treeI (mnRow (arcsN ls th n) z sz 0)
  have hdis : (rowZ (mnRow (arcsN ls th n) z sz 0)).map AVal.dis = rowZ (mnRow (arcsN ls th n) z sz 0) := by unfold rowZ; rw [List.map_map]; exact List.map_congr_left fun x _ => rfl
  have hch : chunk false (rowZ (mnRow (arcsN ls th n) z sz 0)) 0 1 sz = rowZ (mnRow (arcsN ls th n) z sz 0) := chunkZ _ _ (mnRow_len _ _ _ _)
  have htk : (rowZ (mnRow (arcsN ls th n) z sz 0)).take sz = rowZ (mnRow (arcsN ls th n) z sz 0) := List.take_of_length_le (by omega)
  have hc1 : chunk false [AVal.sl 1 (rowZ (mnRow (arcsN ls th n) z sz 0)) .sh] 0 1 1 = [encF (mnRow (arcsN ls th n) z sz 0)] := rfl
  simp [hzs, hs1, hset, hrl, hsp, htr, hch, htk, hc1, -List.all_eq_true]
  obtain ⟨F, hF⟩ : ∃ F : Nat → List AVal, F = fun m => (mnRows (arcsN ls th n) z sz m).map encF := ⟨_, rfl⟩
  have F1 : [encF (mnRow (arcsN ls th n) z sz 0)] = F 1 := by rw [hF]; simp [mnRows]
  have FL : ∀ m, (F m).length = m := fun m => by rw [hF]; simp [mnRows_len]
  have FS : ∀ m, F (m + 1) = F m ++ [encF (mnRow (arcsN ls th n) z sz m)] := fun m => by rw [hF]; simp [mnRows_succ]
  have FE : (mnRows (arcsN ls th n) z sz (most + 1)).map encF = F (most + 1) := by rw [hF]
  have h62' := fun h hh => h62 h hh (mnRows (arcsN ls th n) z sz (h + 1)) (mnRows_get _ _ _ (by omega))
  have hFh : ∀ m, (mnRows (arcsN ls th n) z sz m).map encF = F m := fun m => by rw [hF]
  simp only [hFh] at h62'
  rw [FE, F1]
  clear h62 hF hFh F1 FE
  refine LoopK.intro (tr := [100023, 5502000000002, 5503000200004, 40, 10506000000010]) mixed (by kernel_rfl)
    (fun h : Nat => [(0, .ptr 0 0), (5, .int .i64 sz), (6, .ptr 3 0), (30, .int .i64 most), (31, .int .i64 h)])
    (fun h => [[.sl 13 (ls.map encL) .own, .sl 1 (th.map encI) .sh, .int .i64 n, .int .i64 t], [], [], [.sl 1 (F (h + 1)) .own]]) (fun h => h ≤ most) (fun h => most - h) 0 ?_ ?_ ?_
  · simp
  · simp
    done
  · intro h hh
    by_cases hl : h < most
    case neg =>
      have : h = most := by omega
      subst this
      simp
    have w3 : IntKind.i64.wrap ((h : Int) + 1) = h + 1 := wrap_in (by omega)
    simp [hl]
    refine ⟨_, _, .inl (by simpa using hrep _), by simp, ?_⟩
    simp
    refine ⟨_, _, .inl (by simpa using h62' h (by omega)), by simp, ?_⟩
    have hrl2 := rowZ_len (mnRow (arcsN ls th n) z sz (h + 1))
    rw [mnRow_len] at hrl2
    have htr2 := treeI (mnRow (arcsN ls th n) z sz (h + 1))
    have hch2 : chunk false (rowZ (mnRow (arcsN ls th n) z sz (h + 1))) 0 1 sz = rowZ (mnRow (arcsN ls th n) z sz (h + 1)) := chunkZ _ _ (mnRow_len _ _ _ _)
    have htk2 : (rowZ (mnRow (arcsN ls th n) z sz (h + 1))).take sz = rowZ (mnRow (arcsN ls th n) z sz (h + 1)) := List.take_of_length_le (by omega)
    have fl := FL (h + 1)
    have a1 : h + 1 + 1 ≤ 140737488355328 := by omega
    have a2 : (h + 1 + 1) * 24 ≤ 140737488355328 := by omega
    have fs := FS (h + 1)
    simp only [encF] at fs
    simp [hrl2, htr2, hch2, htk2, fl, a1, a2, hsp, -List.all_eq_true]
    exact ⟨h + 1, by omega, by omega, by rw [w3]; omega, fs.symm⟩
end Go.Proofs.Ytgcnlmcpmocbhaa

/- The search: the best walk, by the program. -/
namespace Go.Proofs.Ytgcnlmcpmocbhaa
open Go Go.Am Go.Wk

def totR (f : Nat → Int) : Nat → Int × Int
  | 0 => (-1, 0)
  | m + 1 => if 0 ≤ f m ∧ ((totR f m).1 < 0 ∨ (f m < (totR f m).1 ∨ f m = (totR f m).1 ∧ (m : Int) < (totR f m).2)) then (f m, m) else totR f m
theorem totR_shape (f : Nat → Int) : ∀ m, (totR f m = (-1, 0)) ∨ ∃ k, k < m ∧ 0 ≤ f k ∧ totR f m = (f k, (k : Int))
  | 0 => .inl rfl
  | m + 1 => by
    simp only [totR]
    split
    · rename_i h
      exact .inr ⟨m, by omega, h.1, rfl⟩
    · rcases totR_shape f m with h | ⟨k, h1, h2, h3⟩
      · exact .inl h
      · exact .inr ⟨k, by omega, h2, h3⟩
noncomputable def blO (ls : List Lnk) (th : List Int) (n t : Nat) : List (Int × Int) := blB (bestO (arcsN ls th n) (th.length * n + t)) (n * (th.length + 1))
noncomputable def walkN (ls : List Lnk) (th : List Int) (n t : Nat) (from_ : Nat) (most : Int) : Option (List Int × Int) :=
  match bestO (arcsN ls th n) (th.length * n + t) (entN th n from_ 0) with
  | none => none
  | some p =>
    if most = 0 ∨ (p.2 : Int) ≤ most then some ((from_ : Int) :: folN ls th n (fun x y co _ => gdB (blO ls th n t) x y co) p.2 (entN th n from_ 0), p.1)
    else
      let rows := mnRows (arcsN ls th n) (th.length * n + t) (n * (th.length + 1)) (most.toNat + 1)
      let tot := totR (fun h => rowAt rows h (entN th n from_ 0)) (most.toNat + 1)
      if tot.1 < 0 then none else some ((from_ : Int) :: folN ls th n (fun x y co l => gdR rows x y co l) tot.2.toNat (entN th n from_ 0), tot.1)
noncomputable def resW : Option (List Int × Int) → AVal
  | none => .tup [.sl 1 [] .sh, .int .i64 0, .bool false]
  | some p => .tup [.sl 1 (p.1.map encI) .sh, .int .i64 p.2, .bool true]
set_option maxHeartbeats 8000000 in
set_option maxRecDepth 10000 in
theorem c31 (ls : List Lnk) (th : List Int) (n t : Nat) (h0 : 0 < n) (hn : n ≤ 128) (ht : t < n) (hth : th.length ≤ 64) (hls : ∀ x ∈ ls, okLk n x) (hL2 : ls.length ≤ 1024) (from_ : Nat) (hf : from_ < n) (most : Int) (hm0 : 0 ≤ most) :
    CFun Try.prog 31 [.ptr 0 0, .int .i64 from_, .int .i64 most] [sC ls th n t] (resW (walkN ls th n t from_ most)) [sC ls th n t] := by
  refine CFun.intro (tr := [900004000018]) (fz := []) (n := 88) (rs := [.tmp 6, .tmp 7, .tmp 8]) Try.func31 rfl (by kernel_rfl) rfl rfl mixed (by kernel_rfl) (by simp) (by simp) ?_
  have h48 := c48 ls th n t h0 hn ht hth hls hL2 _ rfl _ rfl
  have h49 := fun Z => at0 (c49 ls th n t from_ 0 hn (by omega) hth (by omega)) rfl rfl rfl Z
  have hE4 : ∀ a ∈ arcsN ls th n, a.2.2 ≤ 65535 := fun a ha => (arcs_bound hls ha).2.2.2
  have hE1 : ∀ a ∈ arcsN ls th n, 1 ≤ a.2.2 := fun a ha => (arcs_bound hls ha).2.2.1
  have hE2 : ∀ a ∈ arcsN ls th n, a.2.1 < n * (th.length + 1) := fun a ha => (arcs_bound hls ha).2.1
  obtain ⟨sz, hsz⟩ : ∃ sz, sz = n * (th.length + 1) := ⟨_, rfl⟩
  obtain ⟨z, hz⟩ : ∃ z, z = th.length * n + t := ⟨_, rfl⟩
  obtain ⟨x0, hx0⟩ : ∃ x0, x0 = entN th n from_ 0 := ⟨_, rfl⟩
  have hsb : sz ≤ 8320 := by rw [hsz]; exact Nat.mul_le_mul hn (show th.length + 1 ≤ 65 by omega)
  have hx0s : x0 < sz := by
    rw [hx0, hsz]
    unfold entN
    have := entK_len (th := th) (a := from_) (k := 0) (by omega)
    have e2 : (entK th from_ 0 + 1) * n ≤ (th.length + 1) * n := Nat.mul_le_mul_right n (by omega)
    rw [Nat.succ_mul] at e2
    rw [Nat.mul_comm n]
    omega
  unfold walkN blO
  rw [← hsz, ← hz] at h48
  rw [← hsz, ← hz, ← hx0]
  rw [← hx0] at h49
  rw [← hsz] at hE2
  obtain ⟨bl, hbl⟩ : ∃ bl, bl = blB (bestO (arcsN ls th n) z) sz := ⟨_, rfl⟩
  rw [← hbl] at h48 ⊢
  have hbll : bl.length = sz := by rw [hbl]; exact blB_len _ _
  have hblb : ∀ p ∈ bl, -1 ≤ p.1 ∧ p.1 < 1099511627776 ∧ 0 ≤ p.2 ∧ p.2 < 1099511627776 := by
    intro p hp
    rw [hbl] at hp
    obtain ⟨x, hx, rfl⟩ := List.mem_map.1 hp
    have hx := List.mem_range.1 hx
    unfold encB
    cases e : bestO (arcsN ls th n) z x with
    | none => simp
    | some q =>
      have hd := bestO_spec (c := q.1) (h := q.2) e
      obtain ⟨ys, h1, h2⟩ := hd.1
      have := h1.cost hE4
      have := hd.hops hE1 hE2 hx
      have : ys.length * 65535 ≤ 8320 * 65535 := Nat.mul_le_mul_right _ (by omega)
      simp only
      omega
  have hblg : bl[x0]? = some (encB (bestO (arcsN ls th n) z) x0) := by rw [hbl]; exact blB_get _ hx0s
  have h51 : ∀ x y co left, x < n * (th.length + 1) → y < n * (th.length + 1) → 0 ≤ co → co ≤ 65535 → ∀ Z, CFun Try.prog 51 [.int .i64 ((x : Nat) : Int), .int .i64 ((y : Nat) : Int), .int .i64 (co : Int), .int .i64 ((left : Nat) : Int), .ptr 1 0] (sC ls th n t :: [.sl 2 (bl.map fun p => .agg (ceP p)) .sh] :: Z) (.bool (gdB bl x y co)) (sC ls th n t :: [.sl 2 (bl.map fun p => .agg (ceP p)) .sh] :: Z) := by
    intro x y co left hx hy h1 h2 Z
    rw [← hsz] at hx hy
    have := (c51 bl sz hbll hblb x y hx hy co left ⟨h1, h2⟩).at (H := sC ls th n t :: [.sl 2 (bl.map fun p => .agg (ceP p)) .sh] :: Z) (id := 1) rfl rfl rfl rfl rfl
    exact this
  have h50 := fun hops (hh : hops < 1000000) => c50 ls th n t h0 hn hth hls ls.length rfl hL2 51 (fun x y co _ => gdB bl x y co) 2 (bl.map fun p => .agg (ceP p)) from_ hops hf hh (fun x y co left hx hy h1 h2 _ _ Z => h51 x y co left hx hy h1 h2 Z)
  rw [← hx0] at h50
  have h50' := fun hops hh Z => (h50 hops hh).app rfl rfl rfl rfl rfl Z
  clear h50
  simp only [sC] at *
  simp
  refine ⟨_, _, .inl (by simpa using h48), by simp, ?_⟩
  simp
  refine ⟨_, _, ⟨rfl, fun Z => by simpa using h49 _⟩, by simp, ?_⟩
  have hx0l : x0 < bl.length := by omega
  cases hbo : bestO (arcsN ls th n) z x0 with
  | none =>
    have he : encB (bestO (arcsN ls th n) z) x0 = (-1, 0) := by unfold encB; rw [hbo]
    rw [he] at hblg
    simp [hx0l, hbll, hx0s, hblg, gE hblg, ceP, resW]
    done
  | some p =>
    obtain ⟨c, h⟩ := p
    have he : encB (bestO (arcsN ls th n) z) x0 = ((c : Int), (h : Int)) := by unfold encB; rw [hbo]
    rw [he] at hblg
    have hd := bestO_spec hbo
    have hhb := hd.hops hE1 hE2 hx0s
    have c0 : ¬ (c : Int) < 0 := by omega
    simp only
    by_cases hmo : most = 0 ∨ (h : Int) ≤ most
    · rw [if_pos hmo]
      by_cases hm1 : most = 0
      · simp [hx0l, hbll, hx0s, hblg, gE hblg, ceP, c0, hm1, resW]
        refine ⟨_, _, .inl (by simpa [ceP] using h50' h (by omega) [[.int .i64 c, .int .i64 h]]), by simp, ?_⟩
        simp
      · have hm2 := hmo.resolve_left hm1
        simp [hx0l, hbll, hx0s, hblg, gE hblg, ceP, c0, hm1, hm2, resW]
        refine ⟨_, _, .inl (by simpa [ceP] using h50' h (by omega) [[.int .i64 c, .int .i64 h]]), by simp, ?_⟩
        simp
    · rw [if_neg hmo]
      have hmn : most = (most.toNat : Int) := by omega
      obtain ⟨M, hM⟩ : ∃ M, M = most.toNat := ⟨_, rfl⟩
      rw [← hM] at hmn ⊢
      have hM2 : M < 8320 := by omega
      have hm1 : ¬ most = 0 := fun e => hmo (.inl e)
      have hm2 : ¬ (h : Int) ≤ most := fun e => hmo (.inr e)
      have h52 := fun Z => at0 (c52 ls th n t h0 hn ht hth hls hL2 sz hsz.symm z hz.symm M hM2) rfl rfl rfl Z
      simp only [sC] at h52
      obtain ⟨rows, hrows⟩ : ∃ rows, rows = mnRows (arcsN ls th n) z sz (M + 1) := ⟨_, rfl⟩
      rw [← hrows] at h52 ⊢
      have hrl : rows.length = M + 1 := by rw [hrows]; exact mnRows_len _ _ _ _
      have hrb : ∀ r ∈ rows, r.length = sz ∧ ∀ v ∈ r, -1 ≤ v ∧ v < 1099511627776 := by
        intro r hr
        rw [hrows] at hr
        obtain ⟨i, hi, rfl⟩ := List.mem_map.1 hr
        have hi := List.mem_range.1 hi
        exact ⟨mnRow_len _ _ _ _, encO_b hE4 (by omega)⟩
      have h54 : ∀ x y co left, x < n * (th.length + 1) → y < n * (th.length + 1) → 0 ≤ co → co ≤ 65535 → 0 < left → left ≤ M → ∀ Z, CFun Try.prog 54 [.int .i64 ((x : Nat) : Int), .int .i64 ((y : Nat) : Int), .int .i64 (co : Int), .int .i64 ((left : Nat) : Int), .ptr 1 0] (sC ls th n t :: [.sl 1 (rows.map encF) .sh] :: Z) (.bool (gdR rows x y co left)) (sC ls th n t :: [.sl 1 (rows.map encF) .sh] :: Z) := by
        intro x y co left hx hy h1 h2 h3 h4 Z
        rw [← hsz] at hx hy
        have := (c54 rows sz hrb (M + 1) hrl (by omega) x y hx hy co left h3 (by omega) ⟨h1, h2⟩).at (H := sC ls th n t :: [.sl 1 (rows.map encR) .sh] :: Z) (id := 1) rfl rfl rfl rfl rfl
        exact this
      have h50r := fun hops (hh : hops ≤ M) => c50 ls th n t h0 hn hth hls ls.length rfl hL2 54 (fun x y co l => gdR rows x y co l) 1 (rows.map encF) from_ hops hf (by omega) (fun x y co left hx hy h1 h2 h3 h4 Z => h54 x y co left hx hy h1 h2 h3 (by omega) Z)
      rw [← hx0] at h50r
      simp only [sC] at h50r
      have hsh := totR_shape (fun h => rowAt rows h x0)
      generalize hT : totR (fun h => rowAt rows h x0) = T at *
      have hTS : ∀ m, T (m + 1) = if 0 ≤ rowAt rows m x0 ∧ ((T m).1 < 0 ∨ (rowAt rows m x0 < (T m).1 ∨ rowAt rows m x0 = (T m).1 ∧ (m : Int) < (T m).2)) then (rowAt rows m x0, (m : Int)) else T m := by
        intro m
        rw [← hT]
        rfl
      have hT0 : T 0 = (-1, 0) := by rw [← hT]; rfl
      rw [hmn] at hm1 hm2 ⊢
      have hm3 : ¬ M = 0 := by omega
      have hm4 : ¬ h ≤ M := by omega
      simp [hx0l, hbll, hx0s, hblg, gE hblg, ceP, c0, hm3, hm4]
      refine ⟨_, _, .inl (by simpa using h52 _), by simp, ?_⟩
      simp [hrl]
      refine LoopK.intro (tr := [900004000018]) mixed (by kernel_rfl)
        (fun i : Nat => [(0, .ptr 0 0), (1, .int .i64 from_), (11, .ptr 3 0), (12, .ptr 4 0), (47, .sl 1 (rows.map encF) .sh), (48, .int .i64 ((M : Int) + 1)), (49, .int .i64 i)])
        (fun i => [[.sl 13 (ls.map encL) .own, .sl 1 (th.map encI) .sh, .int .i64 n, .int .i64 t], [.sl 2 (bl.map fun p => .agg (ceP p)) .sh], [.int .i64 c, .int .i64 h], [.sl 1 (rows.map encF) .sh], [.int .i64 (T i).1, .int .i64 (T i).2]]) (fun i => i ≤ M + 1) (fun i => M + 1 - i) 0 ?_ ?_ ?_
      · simp
      · simp [ceP, hT0]
      · intro i hi
        by_cases hi2 : i < M + 1
        · obtain ⟨r, hr⟩ : ∃ r, rows[i]? = some r := ⟨_, List.getElem?_eq_getElem (by omega)⟩
          obtain ⟨hrN, hrv⟩ := hrb r (List.mem_of_getElem? hr)
          have hv := getD_ofI (l := r) (i := x0) (by omega)
          have hra : rowAt rows i x0 = r.getD x0 0 := by unfold rowAt; rw [List.getD_eq_getElem?_getD (l := rows), hr]; rfl
          have hts := hTS i
          rw [hra] at hts
          generalize r.getD x0 0 = v at *
          have hz1 := rowZ_get hv
          have hzl := rowZ_len r
          obtain ⟨t1, t2, ht12⟩ : ∃ t1 t2, T i = (t1, t2) := ⟨_, _, rfl⟩
          rw [ht12] at hts
          simp only at hts
          have hii : (i : Int) < (M : Int) + 1 := by omega
          have w3 : IntKind.i64.wrap ((i : Int) + 1) = i + 1 := wrap_in (by omega)
          have h53 := fun a b c d H => (c53 a b c d).up' H rfl rfl
          simp [hii, hi2, hrl, hr, gE hr, encF, ht12]
          refine ⟨_, _, .inl (by simpa [ceP] using h49 _), by simp, ?_⟩
          have hx0r : x0 < (rowZ r).length := by omega
          by_cases g1 : 0 ≤ v
          · by_cases g2 : t1 < 0
            · rw [if_pos ⟨g1, .inl g2⟩] at hts
              simp [hz1, gE hz1, hzl, hrN, hx0s, g1, g2, w3]
              exact ⟨i + 1, by omega, by omega, by simp [hts, ceP]⟩
            · by_cases g3 : v < t1 ∨ v = t1 ∧ (i : Int) < t2
              · rw [if_pos ⟨g1, .inr g3⟩] at hts
                have hb : (decide (v < t1) || decide (v = t1) && decide ((i : Int) < t2)) = true := by simpa using g3
                have hk := h53 v i t1 t2
                rw [hb] at hk
                simp [hz1, gE hz1, hzl, hrN, hx0s, g1, g2, w3]
                refine ⟨_, _, .inl (by simpa using hk _), by simp, ?_⟩
                simp [w3]
                exact ⟨i + 1, by omega, by omega, by simp [hts, ceP]⟩
              · rw [if_neg (fun q => q.2.elim g2 g3)] at hts
                have hb : (decide (v < t1) || decide (v = t1) && decide ((i : Int) < t2)) = false := by
                  rw [Bool.eq_false_iff]
                  intro e
                  exact g3 (by simpa using e)
                have hk := h53 v i t1 t2
                rw [hb] at hk
                simp [hz1, gE hz1, hzl, hrN, hx0s, g1, g2, w3]
                refine ⟨_, _, .inl (by simpa using hk _), by simp, ?_⟩
                simp [w3]
                exact ⟨i + 1, by omega, by omega, by simp [hts, ceP]⟩
          · rw [if_neg (fun q => g1 q.1)] at hts
            simp [hz1, gE hz1, hzl, hrN, hx0s, g1, w3]
            exact ⟨i + 1, by omega, by omega, by simp [hts, ceP]⟩
        · have : i = M + 1 := by omega
          subst this
          have hs := hsh (M + 1)
          have h50r' := fun hops hh => (h50r hops hh).at2 (i := 0) (j := 3) (H := [[.sl 13 (ls.map encL) .own, .sl 1 (th.map encI) .sh, .int .i64 n, .int .i64 t], [.sl 2 (bl.map fun p => .agg (ceP p)) .sh], [.int .i64 c, .int .i64 h], [.sl 1 (rows.map encF) .sh], [.int .i64 (T (M + 1)).1, .int .i64 (T (M + 1)).2]]) (by decide) rfl rfl rfl rfl rfl rfl rfl rfl
          rcases hs with hs | ⟨k, k1, k2, k3⟩
          · rw [hs]
            simp [hs, resW]
          · rw [k3]
            have k4 : ¬ rowAt rows k x0 < 0 := by omega
            rw [if_neg k4]
            have hc := h50r' k (by omega)
            rw [k3] at hc
            simp [k3, resW, k4]
            refine ⟨_, _, .inl (by simpa [two, ren, ren0] using hc), by simp, ?_⟩
            simp
end Go.Proofs.Ytgcnlmcpmocbhaa

/- Fits of the program. -/
namespace Go.Proofs.Ytgcnlmcpmocbhaa
open Go Go.Am

/-- The variables of Fits within a round. -/
@[simp] def hF (p : List Int) (c : Con) (i x : Int) : List (List AVal) := [[.sl 1 (p.map encI) .sh], cellsC c, [.int .i64 i], [.int .i64 x]]
def linkedB (l : List Lnk) (c : Con) (a b : Int) : Bool := l.any fun y => isL a b y && usableN y c
-- cspf.Fits$1
set_option maxHeartbeats 4000000 in
set_option maxRecDepth 10000 in
theorem c37 (p : List Int) (m : Nat) (hm : p.length = m) (hm2 : m < 9223372036854775807) (c : Con) (n : Nat) (hn : c.Avoid.length = n) (hlen : n < 9223372036854775807) (i : Nat) (x a : Int) (hi : p[i]? = some a) (y : Lnk) :
    CFun Try.prog 37 [encL y, .ptr 0 0, .ptr 2 0, .ptr 3 0, .ptr 1 0] (hF p c ((i : Int) + 1) x) (.bool (isL a x y && usableN y c)) (hF p c ((i : Int) + 1) x) := by
  refine CFun.intro (tr := []) (fz := []) (n := 26) (rs := [.tmp 6]) Try.func37 rfl (by kernel_rfl) rfl rfl mixed (by kernel_rfl) (by simp) (by simp) ?_
  have h := fun H => (c9 y c n hn hlen).up' H (by simp [noid, noid0]) rfl
  have him : i < m := by rw [← hm]; exact (List.getElem?_eq_some_iff.1 hi).1
  have w1 : IntKind.i64.wrap ((i : Int)) = i := wrap_in (by omega)
  have w2 : IntKind.i64.wrap ((i : Int) + 1 - 1) = i := by rw [wrap_in] <;> omega
  unfold isL
  generalize usableN y c = u at *
  by_cases a1 : y.From = a
  · by_cases a2 : y.To = x
    · simp [w1, w2, hi, gE hi, him, hm, a1, a2]
      refine ⟨_, _, .inl (by simpa using h _), by simp, ?_⟩
      simp
    · simp [w1, w2, hi, gE hi, him, hm, a1, a2]
  · simp [w1, w2, hi, gE hi, him, hm, a1]
-- slices.IndexFunc
set_option maxHeartbeats 4000000 in
set_option maxRecDepth 10000 in
theorem c56 (l : List Lnk) (k : Nat) (hk : l.length = k) (hk2 : k < 9223372036854775807) (p : List Int) (m : Nat) (hm : p.length = m) (hm2 : m < 9223372036854775807) (c : Con) (n : Nat) (hn : c.Avoid.length = n) (hlen : n < 9223372036854775807) (i : Nat) (x a : Int) (hi : p[i]? = some a) :
    CFun Try.prog 56 [.sl 13 (l.map encL) .sh, .fn 37 [] [.ptr 0 0, .ptr 2 0, .ptr 3 0, .ptr 1 0]] (hF p c ((i : Int) + 1) x) (.int .i64 (idxL (fun y => isL a x y && usableN y c) l 0)) (hF p c ((i : Int) + 1) x) := by
  refine CFun.intro (tr := []) (fz := []) (n := 19) (rs := [.tmp 4]) Try.func56 rfl (by kernel_rfl) rfl rfl mixed (by kernel_rfl) (by simp) (by simp) ?_
  have h := c37 p m hm hm2 c n hn hlen i x a hi
  generalize hf : (fun y => isL a x y && usableN y c) = f at *
  have hf' : ∀ y, (isL a x y && usableN y c) = f y := fun y => by rw [← hf]
  simp only [hf'] at h
  clear hf' hf
  simp only [hF] at *
  simp
  refine LoopK.intro (tr := []) mixed (by kernel_rfl) (fun j : Nat => [(0, .sl 13 (l.map encL) .sh), (1, .fn 37 [] [.ptr 0 0, .ptr 2 0, .ptr 3 0, .ptr 1 0]), (7, .int .i64 k), (8, .int .i64 j)]) (fun _ => hF p c ((i : Int) + 1) x) (fun j => j ≤ k ∧ idxL f l 0 = idxL f (l.drop j) j) (fun j => k - j) 0 ?_ ?_ ?_
  · simp
  · simp [hk]
  · rintro j ⟨h1, h2⟩
    by_cases hj : j < k
    · obtain ⟨y, hy, hd⟩ := get_drop (l := l) (i := j) (by omega)
      rw [hd] at h2
      simp only [idxL] at h2
      have w1 : IntKind.i64.wrap ((j : Int) + 1) = j + 1 := wrap_in (by omega)
      clear hd
      have hyc := h y
      generalize f y = b at hyc h2
      simp [hj, hk, hy, gE hy]
      refine ⟨_, _, .inl (by simpa using hyc), by simp, ?_⟩
      cases b with
      | true => simp at h2; simp [h2]
      | false =>
        simp at h2
        simp [w1]
        exact ⟨j + 1, ⟨by omega, h2⟩, by omega, by simp⟩
    · have : j = k := by omega
      subst this
      rw [List.drop_eq_nil_of_le (by omega)] at h2
      simp [hk, h2, idxL]
-- slices.ContainsFunc
set_option maxHeartbeats 4000000 in
set_option maxRecDepth 10000 in
theorem c36 (l : List Lnk) (k : Nat) (hk : l.length = k) (hk2 : k < 9223372036854775807) (p : List Int) (m : Nat) (hm : p.length = m) (hm2 : m < 9223372036854775807) (c : Con) (n : Nat) (hn : c.Avoid.length = n) (hlen : n < 9223372036854775807) (i : Nat) (x a : Int) (hi : p[i]? = some a) :
    CFun Try.prog 36 [.sl 13 (l.map encL) .sh, .fn 37 [] [.ptr 0 0, .ptr 2 0, .ptr 3 0, .ptr 1 0]] (hF p c ((i : Int) + 1) x) (.bool (linkedB l c a x)) (hF p c ((i : Int) + 1) x) := by
  refine CFun.intro (tr := []) (fz := []) (n := 9) (rs := [.tmp 4]) Try.func36 rfl (by kernel_rfl) rfl rfl mixed (by kernel_rfl) (by simp) (by simp) ?_
  have h := c56 l k hk hk2 p m hm hm2 c n hn hlen i x a hi
  rw [show linkedB l c a x = decide (0 ≤ idxL (fun y => isL a x y && usableN y c) l 0) from idxL_any _ _ _]
  generalize idxL (fun y => isL a x y && usableN y c) l 0 = q at h
  simp only [hF] at *
  simp
  refine ⟨_, _, .inl (by simpa using h), by simp, ?_⟩
  simp
/-- From place i on. -/
def goP (l : List Lnk) (c : Con) (n : Int) : Option Int → Nat → List Int → Bool
  | _, k, [] => decide (k = c.Thru.length)
  | p, k, x :: xs => if outN n x = true then false else if hasB c.Avoid x = true then false
    else if (match p with | some a => !linkedB l c a x | none => false) = true then false
    else goP l c n (some x) (if c.Thru[k]? = some x then k + 1 else k) xs
def prevI (l : List Int) : Nat → Option Int
  | 0 => none
  | i + 1 => l[i]?
def fitsP (n : Int) (l : List Lnk) (p : List Int) (c : Con) : Bool :=
  if checkE n l c ≠ 0 then false else if p.length = 0 then false else if repB p = true then false else if 0 < c.Hops ∧ c.Hops < (p.length : Int) - 1 then false else goP l c n none 0 p
end Go.Proofs.Ytgcnlmcpmocbhaa
