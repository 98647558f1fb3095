/- tunnel.Release, by the program. -/
import Derived.Test.YtpmmnnaaoideeaaT9
import Derived.Test.YtpmmnnaaoideeaaTC40
set_option linter.unusedSimpArgs false
set_option linter.unusedVariables false
namespace Go.Proofs.Ytpmmnnaaoideeaa
open Go Go.Am Go.Wk

/-- From level 8 - f on. -/
def addK (b : Int) : Nat → Lnk → Option Lnk
  | 0, x => some x
  | f + 1, x => if exceedsB (x.Fr (8 - (f + 1))) b x.Cap = true then none else addK b f (setF x (8 - (f + 1)) (x.Fr (8 - (f + 1)) + b))
def addA (b : Int) (h : Nat) : List Int → List Lnk → Option (List Lnk)
  | [], l => some l
  | i :: us, l => match addK b (8 - h) (l.getD i.toNat lnk0) with
    | none => none
    | some x => addA b h us (l.set i.toNat x)
def relN (l : List Lnk) (t : Tun) : List Lnk × Int :=
  if pathE l t ≠ 0 then ([], pathE l t)
  else match addA t.W.Band t.W.Hold.toNat (usesL l t.P) l with
    | none => ([], 1)
    | some o => (o, 0)
set_option maxHeartbeats 16000000 in
set_option maxRecDepth 10000 in
theorem t15 (l : List Lnk) (n : Nat) (hn : l.length = n) (hn2 : n < 1000000) (hF : ∀ x ∈ l, okF x) (t : Tun) (m : Nat) (hm : t.P.length = m) (hm2 : m < 1000000) :
    CFun Try.prog 15 [.sl 13 (l.map encL) .sh, encT t] [] (.tup [.sl 13 ((relN l t).1.map encL) .sh, .int .i64 (relN l t).2]) [] := by
  refine CFun.intro (tr := []) (fz := [(4, 1, true)]) (n := 72) (rs := [.tmp 4, .tmp 5]) Try.func15 rfl (by kernel_rfl) rfl rfl mixed (by kernel_rfl) (by simp) (by simp) ?_
  have h33 := fun H => (t33 l n hn (by omega) t m hm hm2).up' H (by simp [noid, noid0]) (by simp [noid, noid0])
  unfold relN
  by_cases g1 : pathE l t = 0
  case neg =>
    rw [if_pos g1]
    rw [if_neg g1] at h33
    have g1' : ¬ pathE l t = 0 := g1
    generalize pathE l t = e at *
    simp
    refine ⟨_, _, .inl (by simpa using h33 _), by simp, ?_⟩
    simp [g1']
  rw [if_neg (by simpa using g1)]
  obtain ⟨⟨a1, a2⟩, ⟨a3, a4⟩, hus⟩ := pathE_ok g1
  rw [if_pos g1, g1] at h33
  have hul : (usesL l t.P).length = m - 1 := by rw [usesL_len, hm]
  have h35 := fun H => (t35 t.W a1 (by unfold inI; omega)).up' H (by simp [noid, noid0]) (by simp [noid, noid0])
  obtain ⟨h, hh⟩ : ∃ h : Nat, t.W.Hold = h := ⟨t.W.Hold.toNat, by omega⟩
  have hh7 : h ≤ 7 := by omega
  generalize usesL l t.P = us at *
  obtain ⟨u, hu⟩ : ∃ u, us.length = u := ⟨_, rfl⟩
  rw [hu] at hul
  simp only [encC, cellsC, hh] at h35 ⊢
  simp only [encT, cellsT, hh] at h33
  simp only [Int.toNat_natCast]
  by_cases hne : l = []
  · have : us = [] := by
      cases us with
      | nil => rfl
      | cons x us =>
        have := hus x (by simp)
        rw [hne] at this
        simp at this
        omega
    subst this
    subst hne
    have h34 := fun H => t34n.up' H rfl rfl
    simp [hh]
    refine ⟨_, _, .inl (by simpa using h33 _), by simp, ?_⟩
    simp
    refine ⟨_, _, .inl (by simpa using h34 _), by simp, ?_⟩
    simp [hh]
    refine ⟨_, _, .inl (by simpa [hh] using h35 _), by simp, ?_⟩
    simp [addA]
    refine LoopK.intro (tr := []) mixed (by kernel_rfl) (fun _ : Nat => [(8, .sl 13 [] .sh), (28, .int .i64 0), (29, .int .i64 0)]) (fun _ => []) (fun _ => True) (fun i => i) 0 trivial (by simp) ?_
    intro _ _
    simp
  have h34 : ∀ H, CFun Try.prog 34 [.sl 13 (l.map encL) .sh] H (.osl H.length 0 l.length none 13) (H ++ [rowC cellsL l]) := fun H => (t34r l hne (by omega)).upNew H (encL_enc.rowNoid l) rfl rfl
  have hle := fun k (l : List Lnk) => encL_enc.rowLe k l
  have hrl := encL_enc.rowLen
  simp [hh]
  refine ⟨_, _, .inl (by simpa using h33 _), by simp, ?_⟩
  simp
  refine ⟨_, _, .inl (by simpa using h34 _), by simp, ?_⟩
  simp [hh]
  refine ⟨_, _, .inl (by simpa [hh] using h35 _), by simp, ?_⟩
  simp [hu]
  refine LoopK.intro (tr := []) mixed (by kernel_rfl) (fun s : Nat × List Lnk => [(3, .ptr 0 0), (8, .osl 1 0 n none 13), (9, .ptr 2 0), (27, .sl 1 (us.map encI) .sh), (28, .int .i64 u), (29, .int .i64 s.1)]) (fun s => [cellsTh t h, rowC cellsL s.2, arC (takenF h t.W.Band)])
    (fun s => s.1 ≤ u ∧ s.2.length = n ∧ (∀ x ∈ s.2, okF x) ∧ addA t.W.Band h us l = addA t.W.Band h (us.drop s.1) s.2) (fun s => u - s.1) (0, l) ?_ ?_ ?_
  · exact ⟨Nat.zero_le _, hn, hF, rfl⟩
  · simp [hle, hn]
  clear hF h33 h34 h35
  rintro ⟨q, cur⟩ ⟨q1, q2, q3, q4⟩
  simp only at q1 q2 q3 q4
  by_cases hq : q < u
  case neg =>
    have : q = u := by omega
    subst this
    rw [List.drop_eq_nil_of_le (by omega)] at q4
    rw [q4]
    have k4 := encL_enc.chunk cur n q2
    have k3 : ∀ x ∈ rowC cellsL cur, x.tree = true := by simpa using encL_enc.rowTree cur
    have hn0 : 0 < n := by rw [← hn]; exact List.length_pos_iff.2 hne
    have hrc := hrl cur
    rw [q2] at hrc
    have k2 : (rowC cellsL cur).take (n * 13) = rowC cellsL cur := List.take_of_length_le (by omega)
    simp [addA, hrc, k2, k4, hn0]
    rw [if_pos k3]
    simp
  obtain ⟨y, hy⟩ : ∃ y, us[q]? = some y := ⟨_, List.getElem?_eq_getElem (by omega)⟩
  obtain ⟨y0, y1⟩ := hus y (List.mem_of_getElem? hy)
  obtain ⟨i, rfl⟩ : ∃ i : Nat, y = i := ⟨y.toNat, by omega⟩
  have hi : i < n := by omega
  obtain ⟨x, hx⟩ : ∃ x, cur[i]? = some x := ⟨_, List.getElem?_eq_getElem (by omega)⟩
  have hd : us.drop q = (i : Int) :: us.drop (q + 1) := by
    obtain ⟨k1, k2⟩ := List.getElem?_eq_some_iff.1 hy
    rw [List.drop_eq_getElem_cons k1, k2]
  have hxd : cur.getD i lnk0 = x := by rw [List.getD_eq_getElem?_getD, hx]; rfl
  rw [hd] at q4
  simp only [addA, Int.toNat_natCast, hxd] at q4
  have w1 : IntKind.i64.wrap ((q : Int) + 1) = q + 1 := wrap_in (by omega)
  simp [hq, hu, hy, gE hy]
  refine LoopK.intro (tr := []) mixed (by kernel_rfl) (fun s : Nat × Lnk => [(3, .ptr 0 0), (8, .osl 1 0 n none 13), (9, .ptr 2 0), (11, .int .i64 i), (12, .int .i64 s.1), (27, .sl 1 (us.map encI) .sh), (28, .int .i64 u), (29, .int .i64 q)]) (fun s => [cellsTh t h, rowC cellsL (cur.set i s.2), arC (takenF h t.W.Band)])
    (fun s => h ≤ s.1 ∧ s.1 ≤ 8 ∧ okF s.2 ∧ addK t.W.Band (8 - h) x = addK t.W.Band (8 - s.1) s.2) (fun s => 8 - s.1) (h, x) ?_ ?_ ?_
  · exact ⟨Nat.le_refl _, by omega, q3 x (List.mem_of_getElem? hx), rfl⟩
  · have hsame : cur.set i x = cur := by
      apply List.ext_getElem?
      intro j'
      rw [List.getElem?_set]
      split
      · rename_i e; subst e; rw [if_pos (by omega), hx]
      · rfl
    simp [hsame, hle]
  rintro ⟨k, z⟩ ⟨k1, k2, k3, k4⟩
  simp only at k1 k2 k3 k4
  have hsl : (cur.set i z).length = n := by rw [List.length_set]; exact q2
  by_cases hk : k < 8
  case neg =>
    have : k = 8 := by omega
    subst this
    simp only [Nat.sub_self, addK] at k4
    rw [k4] at q4
    simp only at q4
    simp [w1]
    refine ⟨q + 1, cur.set i z, ⟨by omega, hsl, fun v hv => ?_, q4⟩, by omega, by simp [hle]⟩
    rcases List.mem_or_eq_of_mem_set hv with hv | rfl
    · exact q3 v hv
    · exact k3
  have hk' : (k : Int) < 8 := by omega
  have hk7 : k ≤ 7 := by omega
  have hz : (cur.set i z)[i]? = some z := by rw [List.getElem?_set_self (by omega)]
  have hg := rowL_get hz hk
  have hset := rowL_set hz hk (z.Fr k + t.W.Band)
  rw [List.set_set] at hset
  have hrc := hrl (cur.set i z)
  rw [hsl] at hrc
  have ha := arC_get (takenF h t.W.Band) hk
  have ht : takenF h t.W.Band k = t.W.Band := by unfold takenF; rw [if_pos (by omega)]
  rw [ht] at ha
  obtain ⟨f, hf⟩ : ∃ f, 8 - k = f + 1 := ⟨7 - k, by omega⟩
  have hkk : 8 - (f + 1) = k := by omega
  rw [hf] at k4
  simp only [addK, hkk] at k4
  have hin := k3.1 k hk
  have hcp := rowL_cap hz
  have h40 := fun H => (t40 (z.Fr k) t.W.Band z.Cap hin ⟨a3, a4⟩ k3.2).up' H rfl rfl
  have hci := k3.2
  have hex : exceedsB (z.Fr k) t.W.Band z.Cap = false → inI (z.Fr k + t.W.Band) := by
    unfold exceedsB inI at *
    intro e
    split at e
    · simp at e; omega
    · simp at e; omega
  unfold inI at hin
  have w2 : IntKind.i64.wrap ((k : Int) + 1) = k + 1 := wrap_in (by omega)
  have b1 : i * 13 + 4 + k < n * 13 := by omega
  have b2 : i * 13 + 4 + k + 1 ≤ n * 13 := by omega
  have b3 : i * 13 + 3 < n * 13 := by omega
  simp [hk, hk', hk7, hi, hg, gE hg, ha, gE ha, hcp, gE hcp, hrc, b1, b3]
  refine ⟨_, _, .inl (by simpa [cargs] using h40 _), by simp [cargs], ?_⟩
  generalize exceedsB (z.Fr k) t.W.Band z.Cap = g at *
  cases g with
  | true =>
    rw [if_pos rfl] at k4
    rw [k4] at q4
    simp only at q4
    rw [q4]
    simp
  | false =>
    rw [if_neg (by simp)] at k4
    have hin2 := hex rfl
    have hin3 := hin2
    unfold inI at hin2
    have w3 : IntKind.i64.wrap (z.Fr k + t.W.Band) = z.Fr k + t.W.Band := wrap_in hin2
    simp [hk, hk', hk7, hi, hg, gE hg, ha, gE ha, hrc, b1, b2, w3]
    simp [hset, w2]
    refine ⟨k + 1, setF z k (z.Fr k + t.W.Band), ⟨by omega, by omega, okF_set k3 hin3, by rw [k4, show 8 - (k + 1) = f by omega]⟩, by omega, by simp [hle]⟩
end Go.Proofs.Ytpmmnnaaoideeaa

/- What is taken and what is given back. No program. -/
namespace Go.Proofs.Ytpmmnnaaoideeaa
open Go Go.Am Go.Wk

theorem exceedsB_eq {f a c : Int} (ha : 0 ≤ a) : exceedsB f a c = decide (c < f + a) := by
  unfold exceedsB
  by_cases g : f < 0
  · rw [if_pos g]
  · rw [if_neg g, Bool.eq_iff_iff]
    simp only [Bool.or_eq_true, decide_eq_true_eq]
    omega
/-- All levels from h on changed by the same amount. -/
def chR (h : Nat) (v : Int) (x : Lnk) : Lnk := { x with Fr := fun k => if h ≤ k ∧ k < 8 then x.Fr k + v else x.Fr k }
theorem chR_add (h : Nat) (v w : Int) (x : Lnk) : chR h v (chR h w x) = chR h (w + v) x := by
  unfold chR
  congr 1
  funext k
  by_cases e : h ≤ k ∧ k < 8
  · simp only [if_pos e]; omega
  · simp only [if_neg e]
theorem chR_zero (h : Nat) (x : Lnk) : chR h 0 x = x := by
  have : (fun k => if h ≤ k ∧ k < 8 then x.Fr k + 0 else x.Fr k) = x.Fr := by
    funext k; split <;> simp
  unfold chR
  rw [this]
theorem chR_step {h : Nat} (h8 : h < 8) (v : Int) (x : Lnk) : chR (h + 1) v (setF x h (x.Fr h + v)) = chR h v x := by
  unfold chR setF
  congr 1
  funext k
  simp only [updF]
  by_cases e : k = h
  · subst e
    rw [if_neg (by omega), if_pos rfl, if_pos (by omega)]
  · by_cases e2 : h ≤ k ∧ k < 8
    · rw [if_pos (by omega), if_neg e, if_pos e2]
    · rw [if_neg (by omega), if_neg e, if_neg e2]
theorem chR_eight (v : Int) (x : Lnk) : chR 8 v x = x := by
  have : (fun k => if 8 ≤ k ∧ k < 8 then x.Fr k + v else x.Fr k) = x.Fr := by
    funext k; rw [if_neg (by omega)]
  unfold chR
  rw [this]
/-- Level by level, unless one is bad. -/
def opK (bad : Int → Int → Bool) (v : Int) : Nat → Lnk → Option Lnk
  | 0, x => some x
  | f + 1, x => if bad (x.Fr (8 - (f + 1))) x.Cap = true then none else opK bad v f (setF x (8 - (f + 1)) (x.Fr (8 - (f + 1)) + v))
theorem takeK_op (b : Int) : ∀ f x, takeK b f x = opK (fun f _ => decide (f < b)) (-b) f x
  | 0, _ => rfl
  | f + 1, x => by
    simp only [takeK, opK, decide_eq_true_eq, takeK_op b f, Int.sub_eq_add_neg]
theorem addK_op (b : Int) : ∀ f x, addK b f x = opK (fun f c => exceedsB f b c) b f x
  | 0, _ => rfl
  | f + 1, x => by simp only [addK, opK, addK_op b f]
theorem opK_some {bad : Int → Int → Bool} {v : Int} : ∀ (f : Nat) (x : Lnk), f ≤ 8 → (∀ k, 8 - f ≤ k → k < 8 → bad (x.Fr k) x.Cap = false) → opK bad v f x = some (chR (8 - f) v x) := by
  intro f
  induction f with
  | zero => intro x _ _; simp only [opK, Nat.sub_zero, chR_eight]
  | succ f ih =>
    intro x hf h
    have h1 := h (8 - (f + 1)) (Nat.le_refl _) (by omega)
    simp only [opK, h1, Bool.false_eq_true, if_false]
    rw [ih _ (by omega) (fun k k1 k2 => ?_), show 8 - f = 8 - (f + 1) + 1 by omega, chR_step (by omega)]
    show bad (updF x.Fr _ _ k) x.Cap = false
    unfold updF
    rw [if_neg (by omega)]
    exact h k (by omega) k2
theorem opK_none {bad : Int → Int → Bool} {v : Int} : ∀ (f : Nat) (x : Lnk), f ≤ 8 → (∃ k, 8 - f ≤ k ∧ k < 8 ∧ bad (x.Fr k) x.Cap = true) → opK bad v f x = none := by
  intro f
  induction f with
  | zero => intro x _ h; obtain ⟨k, h1, h2, _⟩ := h; omega
  | succ f ih =>
    intro x hf h
    obtain ⟨k, h1, h2, h3⟩ := h
    simp only [opK]
    by_cases g : bad (x.Fr (8 - (f + 1))) x.Cap = true
    · rw [if_pos g]
    · rw [if_neg g]
      refine ih _ (by omega) ⟨k, ?_, h2, ?_⟩
      · by_cases e : k = 8 - (f + 1)
        · subst e; exact absurd h3 g
        · omega
      · show bad (updF x.Fr _ _ k) x.Cap = true
        unfold updF
        by_cases e : k = 8 - (f + 1)
        · subst e; exact absurd h3 g
        · rw [if_neg e]; exact h3
/-- Link by link. -/
def opA (bad : Int → Int → Bool) (v : Int) (h : Nat) : List Int → List Lnk → Option (List Lnk)
  | [], l => some l
  | i :: us, l => match opK bad v (8 - h) (l.getD i.toNat lnk0) with
    | none => none
    | some x => opA bad v h us (l.set i.toNat x)
theorem takeA_op (b : Int) (h : Nat) : ∀ us l, takeA b h us l = opA (fun f _ => decide (f < b)) (-b) h us l
  | [], _ => rfl
  | i :: us, l => by
    simp only [takeA, opA, takeK_op]
    split <;> simp_all [takeA_op b h us]
theorem addA_op (b : Int) (h : Nat) : ∀ us l, addA b h us l = opA (fun f c => exceedsB f b c) b h us l
  | [], _ => rfl
  | i :: us, l => by
    simp only [addA, opA, addK_op]
    split <;> simp_all [addA_op b h us]
def cntI (i : Nat) (us : List Int) : Nat := us.countP fun u => decide (u = (i : Int))
theorem cntI_cons (i : Nat) (u : Int) (us : List Int) : cntI i (u :: us) = cntI i us + if u = (i : Int) then 1 else 0 := by
  unfold cntI
  rw [List.countP_cons]
  simp only [decide_eq_true_eq]
/-- All uses of a path. -/
def chA (v : Int) (h : Nat) (us : List Int) (l : List Lnk) : List Lnk := l.mapIdx fun i x => chR h (v * cntI i us) x
theorem chA_get (v : Int) (h : Nat) (us : List Int) (l : List Lnk) (i : Nat) : (chA v h us l)[i]? = l[i]?.map (chR h (v * cntI i us)) := by
  unfold chA
  rw [List.getElem?_mapIdx]
theorem chA_len (v : Int) (h : Nat) (us : List Int) (l : List Lnk) : (chA v h us l).length = l.length := by
  unfold chA; rw [List.length_mapIdx]
theorem chA_cons {v : Int} {h : Nat} {us : List Int} {l : List Lnk} {i : Nat} {x : Lnk} (hx : l[i]? = some x) : chA v h us (l.set i (chR h v x)) = chA v h ((i : Int) :: us) l := by
  apply List.ext_getElem?
  intro j
  rw [chA_get, chA_get, List.getElem?_set, cntI_cons]
  by_cases e : i = j
  · subst e
    have hlt := (List.getElem?_eq_some_iff.1 hx).1
    rw [if_pos rfl, if_pos hlt, hx]
    simp only [Option.map_some, if_true, chR_add]
    congr 2
    rw [Int.natCast_add, Int.mul_add, Int.add_comm]
    simp
  · rw [if_neg e]
    have : ¬ (i : Int) = j := by omega
    rw [if_neg this]
    rfl
theorem opA_some {bad : Int → Int → Bool} {v : Int} {h : Nat} (h8 : h ≤ 8) : ∀ (us : List Int) (l : List Lnk), (∀ u ∈ us, 0 ≤ u ∧ u < l.length) → ∀ m, opA bad v h us l = some m → m = chA v h us l := by
  intro us
  induction us with
  | nil =>
    intro l _ m hm
    simp only [opA, Option.some.injEq] at hm
    subst hm
    apply List.ext_getElem?
    intro j
    rw [chA_get]
    cases l[j]? <;> simp [cntI, chR_zero]
  | cons u us ih =>
    intro l hu m hm
    obtain ⟨u1, u2⟩ := hu u (by simp)
    obtain ⟨i, rfl⟩ : ∃ i : Nat, u = i := ⟨u.toNat, by omega⟩
    obtain ⟨x, hx⟩ : ∃ x, l[i]? = some x := ⟨_, List.getElem?_eq_getElem (by omega)⟩
    have hxd : l.getD i lnk0 = x := by rw [List.getD_eq_getElem?_getD, hx]; rfl
    simp only [opA, Int.toNat_natCast, hxd] at hm
    by_cases hb : ∃ k, 8 - (8 - h) ≤ k ∧ k < 8 ∧ bad (x.Fr k) x.Cap = true
    · rw [opK_none _ _ (by omega) hb] at hm
      cases hm
    · rw [opK_some _ _ (by omega) (fun k k1 k2 => by
        cases hc : bad (x.Fr k) x.Cap with
        | false => rfl
        | true => exact absurd ⟨k, k1, k2, hc⟩ hb), show 8 - (8 - h) = h by omega] at hm
      rw [← chA_cons hx]
      exact ih _ (fun w hw => by rw [List.length_set]; exact hu w (by simp [hw])) m hm
theorem opA_ok {bad : Int → Int → Bool} {v : Int} {h : Nat} (h8 : h ≤ 8) : ∀ (us : List Int) (l : List Lnk), (∀ u ∈ us, 0 ≤ u ∧ u < l.length) →
    (∀ (i : Nat) (x : Lnk) (c : Nat), l[i]? = some x → c < cntI i us → ∀ k, h ≤ k → k < 8 → bad (x.Fr k + v * c) x.Cap = false) → opA bad v h us l = some (chA v h us l) := by
  intro us
  induction us with
  | nil =>
    intro l _ _
    simp only [opA]
    congr 1
    apply List.ext_getElem?
    intro j
    rw [chA_get]
    cases l[j]? <;> simp [cntI, chR_zero]
  | cons u us ih =>
    intro l hu hb
    obtain ⟨u1, u2⟩ := hu u (by simp)
    obtain ⟨i, rfl⟩ : ∃ i : Nat, u = i := ⟨u.toNat, by omega⟩
    obtain ⟨x, hx⟩ : ∃ x, l[i]? = some x := ⟨_, List.getElem?_eq_getElem (by omega)⟩
    have hxd : l.getD i lnk0 = x := by rw [List.getD_eq_getElem?_getD, hx]; rfl
    simp only [opA, Int.toNat_natCast, hxd]
    rw [opK_some _ _ (by omega) (fun k k1 k2 => by
      have := hb i x 0 hx (by rw [cntI_cons, if_pos rfl]; omega) k (by omega) k2
      simpa using this), show 8 - (8 - h) = h by omega]
    simp only
    rw [← chA_cons hx]
    refine ih _ (fun w hw => by rw [List.length_set]; exact hu w (by simp [hw])) fun j y c hy hc k k1 k2 => ?_
    rw [List.getElem?_set] at hy
    by_cases e : i = j
    · subst e
      rw [if_pos rfl, if_pos (by omega)] at hy
      injection hy with hy
      subst hy
      have := hb i x (c + 1) hx (by rw [cntI_cons, if_pos rfl]; omega) k k1 k2
      show bad ((chR h v x).Fr k + v * c) x.Cap = false
      have e2 : (chR h v x).Fr k = x.Fr k + v := by simp only [chR]; rw [if_pos ⟨k1, k2⟩]
      rw [e2]
      rw [Int.natCast_add, Int.mul_add] at this
      rw [← this]
      congr 1
      simp
      omega
    · rw [if_neg e] at hy
      exact hb j y c hy (by rw [cntI_cons, if_neg (by omega)]; exact hc) k k1 k2
/-- Links that differ in what is free only. -/
theorem usesL_chA (v : Int) (h : Nat) (us : List Int) (l : List Lnk) (p : List Int) : usesL (chA v h us l) p = usesL l p := by
  have hf : ∀ a b, findI (chA v h us l) a b = findI l a b := by
    intro a b
    unfold findI chA
    have : ∀ (l : List Lnk) (f : Nat → Lnk → Lnk) (i : Nat), (∀ i x, (f i x).From = x.From ∧ (f i x).To = x.To) → idxL (isL a b) (l.mapIdx f) i = idxL (isL a b) l i := by
      intro l
      induction l with
      | nil => intro f i _; rfl
      | cons x l ih =>
        intro f i hf
        rw [List.mapIdx_cons]
        simp only [idxL]
        have : isL a b (f 0 x) = isL a b x := by unfold isL; rw [(hf 0 x).1, (hf 0 x).2]
        rw [this, ih _ _ (fun i x => hf (i + 1) x)]
    exact this l _ 0 fun i x => ⟨rfl, rfl⟩
  induction p with
  | nil => rfl
  | cons a p ih =>
    cases p with
    | nil => rfl
    | cons b p => simp only [usesL, hf, ih]
theorem chA_back (v : Int) (h : Nat) (us : List Int) (l : List Lnk) : chA (-v) h us (chA v h us l) = l := by
  apply List.ext_getElem?
  intro i
  rw [chA_get, chA_get]
  cases l[i]? with
  | none => rfl
  | some x =>
    simp only [Option.map_some, chR_add]
    rw [show v * (cntI i us : Int) + -v * (cntI i us : Int) = 0 by rw [Int.neg_mul]; omega, chR_zero]
theorem back_law {l : List Lnk} {t : Tun} (hc : ∀ x ∈ l, ∀ k, k < 8 → x.Fr k ≤ x.Cap) : ((resN l t).2 ≠ 0 → (resN l t).1 = []) ∧ ((resN l t).2 = 0 → relN (resN l t).1 t = (l, 0)) := by
  unfold resN
  by_cases g1 : pathE l t = 0
  case neg => rw [if_pos g1]; exact ⟨fun _ => rfl, fun h => absurd h g1⟩
  rw [if_neg (by simpa using g1)]
  by_cases g2 : roomB l t.W.Band (usesL l t.P) = false
  · rw [if_pos g2]; exact ⟨fun _ => rfl, fun h => by simp at h⟩
  rw [if_neg g2]
  obtain ⟨⟨a1, a2⟩, ⟨a3, a4⟩, hus⟩ := pathE_ok g1
  cases hA : takeA t.W.Band t.W.Hold.toNat (usesL l t.P) l with
  | none => exact ⟨fun _ => rfl, fun h => by simp at h⟩
  | some m =>
    refine ⟨fun h => absurd rfl h, fun _ => ?_⟩
    rw [takeA_op] at hA
    have hm := opA_some (by omega) _ _ hus m hA
    have hmu : usesL m t.P = usesL l t.P := by rw [hm, usesL_chA]
    have hp : pathE m t = 0 := by
      unfold pathE at g1 ⊢
      rw [hmu]
      exact g1
    have hml : m.length = l.length := by rw [hm, chA_len]
    simp only
    unfold relN
    rw [if_neg (by simpa using hp), hmu, addA_op, opA_ok (by omega) _ _ (fun u hu => by rw [hml]; exact hus u hu), hm]
    · have := chA_back (-t.W.Band) t.W.Hold.toNat (usesL l t.P) l
      rw [Int.neg_neg] at this
      rw [this]
    · intro i y c hy hcn k k1 k2
      rw [hm, chA_get] at hy
      rw [Option.map_eq_some_iff] at hy
      obtain ⟨x, hx, rfl⟩ := hy
      have hcap := hc x (List.mem_of_getElem? hx) k k2
      rw [exceedsB_eq a3]
      refine decide_eq_false ?_
      show ¬ x.Cap < (chR _ _ x).Fr k + _ + _
      have e2 : (chR t.W.Hold.toNat (-t.W.Band * (cntI i (usesL l t.P) : Int)) x).Fr k = x.Fr k + -t.W.Band * (cntI i (usesL l t.P) : Int) := by simp only [chR]; rw [if_pos ⟨k1, k2⟩]
      rw [e2]
      have h3 : t.W.Band * (c : Int) + t.W.Band ≤ t.W.Band * (cntI i (usesL l t.P) : Int) := by
        have : t.W.Band * ((c + 1 : Nat) : Int) ≤ t.W.Band * (cntI i (usesL l t.P) : Int) := Int.mul_le_mul_of_nonneg_left (by omega) a3
        rw [Int.natCast_add, Int.mul_add] at this
        simpa using this
      rw [Int.neg_mul]
      omega
end Go.Proofs.Ytpmmnnaaoideeaa

/- The reference's lists of numbers. -/
namespace Go.Proofs.Ytpmmnnaaoideeaa
open Go Go.Am Go.Wk

def cmpI : List Int → List Int → Int
  | [], [] => 0
  | [], _ :: _ => -1
  | _ :: _, [] => 1
  | x :: a, y :: b => if y < x then 1 else if x < y then -1 else cmpI a b
theorem cmpI_step {a b : List Int} {i : Nat} {x y : Int} (hx : a[i]? = some x) (hy : b[i]? = some y) : cmpI (a.drop i) (b.drop i) = if y < x then 1 else if x < y then -1 else cmpI (a.drop (i + 1)) (b.drop (i + 1)) := by
  obtain ⟨h1, e1⟩ := List.getElem?_eq_some_iff.1 hx
  obtain ⟨h2, e2⟩ := List.getElem?_eq_some_iff.1 hy
  rw [List.drop_eq_getElem_cons h1, List.drop_eq_getElem_cons h2, e1, e2, cmpI]
theorem cmpI_long {a b : List Int} {i : Nat} (h1 : i < a.length) (h2 : i = b.length) : cmpI (a.drop i) (b.drop i) = 1 := by
  rw [List.drop_eq_getElem_cons h1, List.drop_eq_nil_of_le (show b.length ≤ i by omega)]
  rfl
theorem cmpI_end {a b : List Int} {i : Nat} (h1 : a.length ≤ i) : cmpI (a.drop i) (b.drop i) = if i < b.length then -1 else 0 := by
  rw [List.drop_eq_nil_of_le h1]
  split
  · rename_i h
    rw [List.drop_eq_getElem_cons h]
    rfl
  · rename_i h
    rw [List.drop_eq_nil_of_le (show b.length ≤ i by omega)]
    rfl
set_option maxHeartbeats 4000000 in
set_option maxRecDepth 10000 in
-- CompareInts
theorem c17 (a b : List Int) (n m : Nat) (hn : a.length = n) (hm : b.length = m) (hn2 : n < 9223372036854775807) (hm2 : m < 9223372036854775807) : CFun Try.prog 20 [.sl 1 (a.map encI) .sh, .sl 1 (b.map encI) .sh] [] (.bool (decide (a = b))) [] := by
  refine CFun.intro (tr := []) (fz := []) (n := 26) (rs := [.tmp 4]) Try.func20 rfl (by kernel_rfl) rfl rfl mixed (by kernel_rfl) (by simp) (by simp) ?_
  by_cases hl : n = m
  case neg =>
    have hab : ¬ a = b := fun e => hl (by rw [← hn, ← hm, e])
    have hl' : ¬ (n : Int) = m := by omega
    simp [hn, hm, hl, hl', hab]
  subst hl
  obtain ⟨T, hT⟩ : ∃ T, T = decide (a = b) := ⟨_, rfl⟩
  rw [← hT]
  simp [hn, hm]
  refine LoopK.intro (tr := []) mixed (by kernel_rfl) (fun i : Nat => [(1, .sl 1 (b.map encI) .sh), (12, .sl 1 (a.map encI) .sh), (13, .int .i64 n), (14, .int .i64 i)]) (fun _ => []) (fun i => i ≤ n ∧ ∀ j, j < i → a[j]? = b[j]?) (fun i => n - i) 0 ?_ ?_ ?_
  · simp
  · simp
  · rintro i ⟨h1, h2⟩
    by_cases hi : i < n
    · obtain ⟨x, hx⟩ : ∃ x, a[i]? = some x := ⟨_, List.getElem?_eq_getElem (by omega)⟩
      obtain ⟨y, hy⟩ : ∃ y, b[i]? = some y := ⟨_, List.getElem?_eq_getElem (by omega)⟩
      have w1 : IntKind.i64.wrap ((i : Int) + 1) = i + 1 := wrap_in (by omega)
      by_cases g : x = y
      · subst g
        simp [hi, hn, hm, hx, gE hx, hy, gE hy, w1]
        refine ⟨i + 1, ⟨by omega, fun j hj => ?_⟩, by omega, by simp⟩
        by_cases e : j = i
        · subst e; rw [hx, hy]
        · exact h2 j (by omega)
      · have : T = false := by
          rw [hT]
          refine decide_eq_false fun e => g ?_
          subst e
          rw [hx] at hy
          injection hy
        simp [hi, hn, hm, hx, gE hx, hy, gE hy, g, this]
    · have : i = n := by omega
      subst this
      have : T = true := by
        rw [hT]
        refine decide_eq_true (List.ext_getElem? fun j => ?_)
        by_cases hj : j < i
        · exact h2 j hj
        · rw [List.getElem?_eq_none (by omega), List.getElem?_eq_none (by omega)]
      simp [this]
end Go.Proofs.Ytpmmnnaaoideeaa

/- The reference's walks. -/
namespace Go.Proofs.Ytpmmnnaaoideeaa
open Go Go.Am Go.Wk

structure Wlk where
  N : List Int
  C : Int
  D : Nat
def ceW (w : Wlk) : List AVal := [.sl 1 (w.N.map encI) .sh, .int .i64 w.C, .int .i64 w.D]
@[simp] def encW (w : Wlk) : AVal := .agg (ceW w)
@[simp] theorem ceW_len (w : Wlk) : (ceW w).length = 3 := rfl
theorem eWe : Enc ceW 3 := ⟨by decide, fun _ => rfl, fun _ => rfl, fun _ => rfl⟩
def stepW (w : Wlk) (x : Lnk) (c : Con) : Wlk := ⟨w.N ++ [x.To], w.C + x.Cost, if c.Thru[w.D]? = some x.To then w.D + 1 else w.D⟩
def lastW (w : Wlk) : Int := w.N.getD (w.N.length - 1) 0
def betW (w x : Wlk) : Bool := decide (w.C < x.C) || decide (w.C = x.C) && decide (cmpI w.N x.N < 0)
def keepN : List Wlk → Wlk → List Wlk
  | [], w => [w]
  | x :: l, w => if lastW x = lastW w ∧ x.D = w.D then (if betW w x = true then w else x) :: l else x :: keepN l w
theorem keepN_at {w x : Wlk} : ∀ {l : List Wlk} {i : Nat}, l[i]? = some x → (∀ j y, j < i → l[j]? = some y → ¬ (lastW y = lastW w ∧ y.D = w.D)) → (lastW x = lastW w ∧ x.D = w.D) → keepN l w = l.set i (if betW w x = true then w else x) := by
  intro l
  induction l with
  | nil => intro i h; simp at h
  | cons a l ih =>
    intro i h hn hx
    cases i with
    | zero =>
      simp at h
      subst h
      simp only [keepN, if_pos hx, List.set_cons_zero]
    | succ i =>
      have h0 := hn 0 a (by omega) rfl
      simp only [keepN, if_neg h0, List.set_cons_succ]
      rw [ih (by simpa using h) (fun j y hj hy => hn (j + 1) y (by omega) (by simpa using hy)) hx]
theorem keepN_new {w : Wlk} : ∀ {l : List Wlk}, (∀ y ∈ l, ¬ (lastW y = lastW w ∧ y.D = w.D)) → keepN l w = l ++ [w] := by
  intro l
  induction l with
  | nil => intro _; rfl
  | cons a l ih =>
    intro h
    simp only [keepN, if_neg (h a (by simp)), List.cons_append]
    rw [ih fun y hy => h y (List.mem_cons_of_mem _ hy)]
end Go.Proofs.Ytpmmnnaaoideeaa

/- The reference's Route: what it keeps. -/
namespace Go.Proofs.Ytpmmnnaaoideeaa
open Go Go.Am Go.Wk

structure okW (n t h : Nat) (w : Wlk) : Prop where
  len : w.N.length = h + 1
  lo : 0 ≤ lastW w
  hi : lastW w < n
  c0 : 0 ≤ w.C
  c1 : w.C ≤ 65535 * h
  d : w.D ≤ t
def codeW (n : Nat) (w : Wlk) : Nat := w.D * n + (lastW w).toNat
structure okNx (n t h : Nat) (l : List Wlk) : Prop where
  w : ∀ w ∈ l, okW n t h w
  nd : (l.map (codeW n)).Nodup
theorem code_inj {n t h h' : Nat} {a b : Wlk} (ha : okW n t h a) (hb : okW n t h' b) (e : codeW n a = codeW n b) : lastW a = lastW b ∧ a.D = b.D := by
  unfold codeW at e
  have a1 := ha.lo; have a2 := ha.hi; have b1 := hb.lo; have b2 := hb.hi
  have n0 : 0 < n := by omega
  have e1 : (a.D * n + (lastW a).toNat) / n = a.D := by rw [Nat.mul_comm, Nat.mul_add_div n0, Nat.div_eq_of_lt (by omega)]; rfl
  have e2 : (b.D * n + (lastW b).toNat) / n = b.D := by rw [Nat.mul_comm, Nat.mul_add_div n0, Nat.div_eq_of_lt (by omega)]; rfl
  have hd : a.D = b.D := by rw [← e1, ← e2, e]
  rw [hd] at e
  exact ⟨by omega, hd⟩
theorem code_lt {n t h : Nat} {w : Wlk} (ha : okW n t h w) : codeW n w < n * (t + 1) := by
  have a1 := ha.lo; have a2 := ha.hi; have a3 := ha.d
  unfold codeW
  have : (w.D + 1) * n ≤ (t + 1) * n := Nat.mul_le_mul_right n (by omega)
  rw [Nat.succ_mul] at this
  rw [Nat.mul_comm n]
  omega
theorem okNx.length {n t h : Nat} {l : List Wlk} (hl : okNx n t h l) : l.length ≤ n * (t + 1) := by
  have := nodup_length hl.nd (n := n * (t + 1)) (fun x hx => by
    obtain ⟨w, hw, rfl⟩ := List.mem_map.1 hx
    exact code_lt (hl.w w hw))
  simpa using this
theorem keepN_cases (l : List Wlk) (w : Wlk) : (∃ i x, l[i]? = some x ∧ lastW x = lastW w ∧ x.D = w.D ∧ keepN l w = l.set i (if betW w x = true then w else x)) ∨ ((∀ y ∈ l, ¬ (lastW y = lastW w ∧ y.D = w.D)) ∧ keepN l w = l ++ [w]) := by
  induction l with
  | nil => exact .inr ⟨by simp, rfl⟩
  | cons a l ih =>
    by_cases h : lastW a = lastW w ∧ a.D = w.D
    · exact .inl ⟨0, a, rfl, h.1, h.2, by simp only [keepN, if_pos h, List.set_cons_zero]⟩
    · rcases ih with ⟨i, x, h1, h2, h3, h4⟩ | ⟨h1, h2⟩
      · exact .inl ⟨i + 1, x, by simpa using h1, h2, h3, by simp only [keepN, if_neg h, h4, List.set_cons_succ]⟩
      · refine .inr ⟨fun y hy => ?_, by simp only [keepN, if_neg h, h2, List.cons_append]⟩
        rcases List.mem_cons.1 hy with rfl | hy
        · exact h
        · exact h1 y hy
theorem okNx.keep {n t h : Nat} {l : List Wlk} (hl : okNx n t h l) {w : Wlk} (hw : okW n t h w) : okNx n t h (keepN l w) := by
  rcases keepN_cases l w with ⟨i, x, h1, h2, h3, h4⟩ | ⟨h1, h2⟩
  · rw [h4]
    have hx := hl.w x (List.mem_of_getElem? h1)
    have hlt := (List.getElem?_eq_some_iff.1 h1).1
    refine ⟨fun y hy => ?_, ?_⟩
    · rcases List.mem_or_eq_of_mem_set hy with hy | rfl
      · exact hl.w y hy
      · split
        · exact hw
        · exact hx
    · have e : (l.set i (if betW w x = true then w else x)).map (codeW n) = l.map (codeW n) := by
        apply List.ext_getElem?
        intro j
        simp only [List.getElem?_map, List.getElem?_set]
        by_cases ej : i = j
        · subst ej
          rw [if_pos rfl, if_pos hlt, h1]
          have : codeW n w = codeW n x := by unfold codeW; rw [h2, h3]
          split <;> simp [this]
        · rw [if_neg ej]
      rw [e]
      exact hl.nd
  · rw [h2]
    refine ⟨fun y hy => ?_, ?_⟩
    · rcases List.mem_append.1 hy with hy | hy
      · exact hl.w y hy
      · simp at hy; subst hy; exact hw
    · rw [List.map_append, List.nodup_append]
      refine ⟨hl.nd, by simp, fun a ha b hb e => ?_⟩
      simp at hb
      obtain ⟨y, hy, rfl⟩ := List.mem_map.1 ha
      exact h1 y hy (code_inj (hl.w y hy) hw (e.trans hb))
theorem lastW_get {n t h : Nat} {w : Wlk} (hw : okW n t h w) : w.N.getD h 0 = lastW w ∧ w.N[h]? = some (lastW w) := by
  have : lastW w = w.N.getD h 0 := by unfold lastW; rw [hw.len, Nat.add_sub_cancel]
  refine ⟨this.symm, ?_⟩
  rw [this]
  exact getD_ofI (by rw [hw.len]; omega)
theorem okW.step {n t h : Nat} {w : Wlk} (hw : okW n t h w) {x : Lnk} (hx : okLk n x) {c : Con} (ht : c.Thru.length = t) : okW n t (h + 1) (stepW w x c) := by
  obtain ⟨o1, o2, o3, o4, o5, o6⟩ := hx
  have hl : lastW (stepW w x c) = x.To := by
    unfold lastW stepW
    simp
  refine ⟨by simp [stepW, hw.len], by rw [hl]; exact o3, by rw [hl]; exact o4, ?_, ?_, ?_⟩
  · have := hw.c0; simp only [stepW]; omega
  · have := hw.c1; simp only [stepW]; omega
  · have := hw.d
    simp only [stepW]
    split
    · rename_i e
      have := (List.getElem?_eq_some_iff.1 e).1
      omega
    · omega
/-- With one link more. -/
def linkR (c : Con) (w : Wlk) (nx : List Wlk) (x : Lnk) : List Wlk := if x.From = lastW w ∧ usableN x c = true then keepN nx (stepW w x c) else nx
def linksR (l : List Lnk) (c : Con) (nx : List Wlk) (w : Wlk) : List Wlk := l.foldl (linkR c w) nx
def nextR (l : List Lnk) (c : Con) (at_ : List Wlk) : List Wlk := at_.foldl (linksR l c) []
def lessB (b : Option Wlk) (w : Wlk) : Bool := match b with
  | none => true
  | some q => decide (w.C < q.C)
def bestS (to : Int) (t : Nat) (b : Option Wlk) (w : Wlk) : Option Wlk := if lastW w = to ∧ w.D = t ∧ lessB b w = true then some w else b
def bestR (to : Int) (t : Nat) (b : Option Wlk) (at_ : List Wlk) : Option Wlk := at_.foldl (bestS to t) b
theorem linkR_ok {n t h : Nat} {c : Con} (ht : c.Thru.length = t) {w : Wlk} (hw : okW n t h w) {nx : List Wlk} (hn : okNx n t (h + 1) nx) {x : Lnk} (hx : okLk n x) : okNx n t (h + 1) (linkR c w nx x) := by
  unfold linkR
  split
  · exact hn.keep (hw.step hx ht)
  · exact hn
theorem linksR_ok {n t h : Nat} {c : Con} (ht : c.Thru.length = t) {w : Wlk} (hw : okW n t h w) : ∀ {l : List Lnk}, (∀ x ∈ l, okLk n x) → ∀ {nx : List Wlk}, okNx n t (h + 1) nx → okNx n t (h + 1) (linksR l c nx w) := by
  intro l
  induction l with
  | nil => intro _ nx hn; exact hn
  | cons x l ih =>
    intro hl nx hn
    exact ih (fun y hy => hl y (List.mem_cons_of_mem _ hy)) (linkR_ok ht hw hn (hl x (by simp)))
theorem okNx_nil (n t h : Nat) : okNx n t h [] := ⟨by simp, by simp⟩
theorem foldl_inv {α β : Type} {f : β → α → β} {p : β → Prop} {q : α → Prop} (hf : ∀ b a, p b → q a → p (f b a)) : ∀ {l : List α} {b : β}, p b → (∀ a ∈ l, q a) → p (l.foldl f b) := by
  intro l
  induction l with
  | nil => intro b h _; exact h
  | cons a l ih => intro b h hq; exact ih (hf b a h (hq a (by simp))) (fun x hx => hq x (List.mem_cons_of_mem _ hx))
theorem nextR_ok {n t h : Nat} {c : Con} (ht : c.Thru.length = t) {l : List Lnk} (hl : ∀ x ∈ l, okLk n x) {at_ : List Wlk} (ha : ∀ w ∈ at_, okW n t h w) : okNx n t (h + 1) (nextR l c at_) :=
  foldl_inv (p := okNx n t (h + 1)) (q := okW n t h) (fun _ _ hb hw => linksR_ok ht hw hl hb) (okNx_nil n t (h + 1)) ha
/-- The rounds. -/
def loopR (l : List Lnk) (c : Con) (to : Int) (sz : Nat) : Nat → Nat → List Wlk → Option Wlk → Option Wlk
  | 0, _, _, b => b
  | f + 1, h, at_, b => if at_ ≠ [] ∧ h < sz ∧ (c.Hops = 0 ∨ (h : Int) ≤ c.Hops) then loopR l c to sz f (h + 1) (nextR l c at_) (bestR to c.Thru.length b at_) else b
def firstW (fr : Int) (c : Con) : Wlk := ⟨[fr], 0, if c.Thru[0]? = some fr then 1 else 0⟩
def refN (n : Int) (l : List Lnk) (fr to : Int) (c : Con) : List Int × Int × Int :=
  if checkE n l c ≠ 0 then ([], 0, checkE n l c) else if (outN n fr || outN n to) = true then ([], 0, 5)
  else match loopR l c to (n.toNat * (c.Thru.length + 1)) (n.toNat * (c.Thru.length + 1) + 1) 0 (if hasB c.Avoid fr = true then [] else [firstW fr c]) none with
    | none => ([], 0, 20)
    | some w => if repB w.N = true then ([], 0, 10) else (w.N, w.C, 0)
end Go.Proofs.Ytpmmnnaaoideeaa
