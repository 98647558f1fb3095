import Derived.Test.YticijodoelphcaaH2
set_option linter.unusedSimpArgs false
set_option linter.unusedVariables false
namespace Go.Proofs.Yticijodoelphcaa
open Go Go.Am

def ceH (h : Hdr) : List AVal := cellsH h
theorem eH : Enc ceH 7 where
  pos := by omega
  len x := rfl
  dis x := rfl
  tree x := by simp [AVal.tree, ceH]
/-- What make lays. -/
def zN : List AVal := [.int .u32 0, .int .u32 0, .int .i64 0, .int .u32 0, .int .u32 0, .int .i64 0, .int .i64 0, .bool false, .int .i64 0, .sl 0 [] .full, .sl 0 [] .full, .bool false, .sl 0 [] .full, .sl 0 [] .full, .int .i64 0]


set_option maxHeartbeats 4000000 in
set_option maxRecDepth 10000 in
theorem h56_cl (l : List Hdr) (s1 : l.length * 56 ≤ 140737488355328) : CFun Try.prog 56 [.sl 7 (l.map fun x => AVal.agg (ceH x)) .sh] [] (.sl 7 (l.map fun x => AVal.agg (ceH x)) .sh) [] := by
  refine CFun.intro (tr := []) (fz := []) (n := 8) (rs := [.tmp 2]) Try.func56 rfl (by kernel_rfl) rfl rfl mixed (by kernel_rfl) (by simp) (by simp) ?_
  have s2 : l.length ≤ 140737488355328 := by omega
  cases l with
  | nil => simp
  | cons x xs =>
    simp only [List.length_cons] at s1 s2
    simp [s1, s2]
set_option maxHeartbeats 4000000 in
set_option maxRecDepth 10000 in
theorem h56_clr (l : List Hdr) (hne : l ≠ []) (s1 : l.length * 56 ≤ 140737488355328) : CFun Try.prog 56 [.sl 7 (l.map fun x => AVal.agg (ceH x)) .sh] [] (.osl 0 0 l.length none 7) [rowC ceH l] := by
  refine CFun.intro (tr := [100007]) (fz := []) (n := 8) (rs := [.tmp 2]) Try.func56 rfl (by kernel_rfl) rfl rfl mixed (by kernel_rfl) (by simp) (by simp) ?_
  have s2 : l.length ≤ 140737488355328 := by omega
  have s3 : 0 < l.length := List.length_pos_iff.2 hne
  have s4 : (l.map fun x => AVal.agg (ceH x)).isEmpty = false := by cases l <;> simp_all
  have s5 := rowC_map (ce := ceH) l
  simp [hne, s1, s2, s3, s4]
  rw [s5, (eH).rowDis]
  exact (eH).rowLe 1 l
set_option maxHeartbeats 4000000 in
set_option maxRecDepth 10000 in
theorem h56_cl0 : CFun Try.prog 56 [.sl 7 [] .sh] [] (.sl 7 [] .full) [] := by
  refine CFun.intro (tr := [100007]) (fz := []) (n := 8) (rs := [.tmp 2]) Try.func56 rfl (by kernel_rfl) rfl rfl mixed (by kernel_rfl) (by simp) (by simp) ?_
  simp


set_option maxHeartbeats 4000000 in
set_option maxRecDepth 10000 in
theorem n39_ix (l : List Nbr) (n : Nat) (hn : l.length = n) (hlen : n < 1099511627776) (p : Nbr → Bool) (f : FuncId) (fs cs : List AVal) (H : List (List AVal)) (hf : low H.length (.fn f fs cs) = true) (hH : LeBoxes H.length H H)
    (hp : ∀ x ∈ l, CFun Try.prog f (fs ++ [.agg (ceN x)] ++ cs) H (.bool (p x)) H) : CFun Try.prog 39 [.sl 15 (l.map fun x => AVal.agg (ceN x)) .sh, .fn f fs cs] H (.int .i64 (idxL p l 0)) H := by
  refine CFun.intro (tr := []) (fz := []) (n := 19) (rs := [.tmp 4]) Try.func39 rfl (by kernel_rfl) rfl rfl mixed (by kernel_rfl) (by simp) (by simp) ?_
  simp
  refine LoopK.intro (tr := []) mixed (by kernel_rfl) (fun i : Nat => [(0, .sl 15 (l.map fun x => AVal.agg (ceN x)) .sh), (1, .fn f fs cs), (7, .int .i64 n), (8, .int .i64 i)]) (fun _ => H) (fun i => i ≤ n ∧ idxL p l 0 = idxL p (l.drop i) i) (fun i => n - i) 0 ?_ ?_ ?_
  · simp
  · simp [hn, hH]
    simpa [low] using hf
  · rintro i ⟨h1, h2⟩
    by_cases hi : i < n
    · obtain ⟨x, hx, hd⟩ := get_drop (l := l) (i := i) (by omega)
      have hpx := hp x (List.mem_of_getElem? hx)
      rw [hd] at h2
      clear hd hn
      have w1 : IntKind.i64.wrap ((i : Int) + 1) = i + 1 := wrap_in (by omega)
      have hl := (eN).len x
      have ht := List.all_eq_true.1 ((eN).tree x)
      have hdis := (eN).dis x
      have htk : (List.take 15 (ceN x)) = ceN x := List.take_of_length_le (by omega)
      simp [hi, hx, hl, ht, hdis, htk]
      refine ⟨_, _, .inl (by simpa [cargs] using hpx), by simp, ?_⟩
      simp only [idxL] at h2
      by_cases hpb : p x = true
      · simp [hpb, hH, h2]
      · rw [if_neg hpb] at h2
        simp [hpb, w1, hH]
        refine ⟨i + 1, ⟨by omega, h2⟩, by omega, ?_⟩
        simp
        simpa [low] using hf
    · have : i = n := by omega
      subst this
      rw [List.drop_eq_nil_of_le (by omega)] at h2
      simp [h2, idxL, hH]

set_option maxHeartbeats 4000000 in
set_option maxRecDepth 10000 in
theorem n39_ixr (l : List Nbr) (rest : List AVal) (n : Nat) (hn : l.length = n) (hlen : n < 1099511627776) (p : Nbr → Bool) (f : FuncId) (fs cs : List AVal) (H : List (List AVal)) (id : Nat) (cap : Option Nat) (hid : H[id]? = some (rowC ceN l ++ rest))
    (hf : low H.length (.fn f fs cs) = true) (hH : LeBoxes H.length H H)
    (hp : ∀ x ∈ l, CFun Try.prog f (fs ++ [.agg (ceN x)] ++ cs) H (.bool (p x)) H) : CFun Try.prog 39 [.osl id 0 n cap 15, .fn f fs cs] H (.int .i64 (idxL p l 0)) H := by
  have hidl : id < H.length := (List.getElem?_eq_some_iff.1 hid).1
  refine CFun.intro (tr := []) (fz := []) (n := 19) (rs := [.tmp 4]) Try.func39 rfl (by kernel_rfl) rfl rfl mixed (by kernel_rfl) (by simp) (by simp) ?_
  simp
  refine LoopK.intro (tr := []) mixed (by kernel_rfl) (fun i : Nat => [(0, .osl id 0 n cap 15), (1, .fn f fs cs), (7, .int .i64 n), (8, .int .i64 i)]) (fun _ => H) (fun i => i ≤ n ∧ idxL p l 0 = idxL p (l.drop i) i) (fun i => n - i) 0 ?_ ?_ ?_
  · simp
  · simp [hH, hidl]
    simpa [low] using hf
  · rintro i ⟨h1, h2⟩
    by_cases hi : i < n
    · obtain ⟨x, hx, hd⟩ := get_drop (l := l) (i := i) (by omega)
      have hpx := hp x (List.mem_of_getElem? hx)
      have hload := (eN).load hx rest
      rw [hd] at h2
      clear hd hn
      have w1 : IntKind.i64.wrap ((i : Int) + 1) = i + 1 := wrap_in (by omega)
      simp [hi, hid, hload, -aload]
      refine ⟨_, _, .inl (by simpa [cargs] using hpx), by simp, ?_⟩
      simp only [idxL] at h2
      by_cases hpb : p x = true
      · simp [hpb, hH, h2]
      · rw [if_neg hpb] at h2
        simp [hpb, w1, hH]
        refine ⟨i + 1, ⟨by omega, h2⟩, by omega, ?_⟩
        simp [hidl]
        simpa [low] using hf
    · have : i = n := by omega
      subst this
      rw [List.drop_eq_nil_of_le (by omega)] at h2
      simp [h2, idxL, hH]


set_option maxHeartbeats 4000000 in
set_option maxRecDepth 10000 in
theorem n54_ct (l : List Nbr) (hlen : l.length < 1099511627776) (p : Nbr → Bool) (f : FuncId) (fs cs : List AVal) (H : List (List AVal)) (hf : low H.length (.fn f fs cs) = true) (hH : LeBoxes H.length H H)
    (hp : ∀ x ∈ l, CFun Try.prog f (fs ++ [.agg (ceN x)] ++ cs) H (.bool (p x)) H) : CFun Try.prog 54 [.sl 15 (l.map fun x => AVal.agg (ceN x)) .sh, .fn f fs cs] H (.bool (l.any p)) H := by
  refine CFun.intro (tr := []) (fz := []) (n := 9) (rs := [.tmp 4]) Try.func54 rfl (by kernel_rfl) rfl rfl mixed (by kernel_rfl) (by simp) (by simp) ?_
  simp
  refine ⟨_, _, .inl (n39_ix l l.length rfl hlen p f fs cs H hf hH hp), trivial, ?_⟩
  simp [hH, ← idxL_any p l 0]


set_option maxHeartbeats 4000000 in
set_option maxRecDepth 10000 in
theorem n50_del (l : List Nbr) (n c : Nat) (hn : l.length = n) (hc : n ≤ c) (hlen : n < 1099511627776) (p : Nbr → Bool) (f : FuncId) (fs cs : List AVal) (hfs : fs.all noid0 = true) (hcs : cs.all noid0 = true)
    (hp : ∀ x, CFun Try.prog f (fs ++ [.agg (ceN x)] ++ cs) [] (.bool (p x)) []) : CFun Try.prog 50 [.osl 0 0 n (some c) 15, .fn f fs cs] [rowC ceN l] (.osl 0 0 (l.filter fun x => !p x).length (some c) 15) [delRow ceN 15 p l] := by
  have n01 : ∀ y : AVal, noid0 y = true → noid y = true := by
    intro y hy
    cases y <;> first | rfl | (simp [noid0] at hy)
  have hno : ∀ x : Nbr, (fs ++ [AVal.agg (ceN x)] ++ cs).all noid = true := by
    intro x
    simp only [List.all_append, Bool.and_eq_true]
    exact ⟨⟨List.all_eq_true.2 fun y hy => n01 y (List.all_eq_true.1 hfs y hy), rfl⟩, List.all_eq_true.2 fun y hy => n01 y (List.all_eq_true.1 hcs y hy)⟩
  have hlow : ∀ k, low k (.fn f fs cs) = true := fun k => noid_low (by simp [noid, hfs, hcs])
  have flatB_le := (eN).rowLe
  refine CFun.intro (tr := []) (fz := []) (n := 42) (rs := [.tmp 4]) Try.func50 rfl (by kernel_rfl) rfl rfl mixed (by kernel_rfl) (by simp) (by simp) ?_
  simp
  have hidx := n39_ixr l [] n hn hlen p f fs cs [rowC ceN l] 0 (some c) (by simp) (hlow _) (by simp [flatB_le]) (fun x _ => (hp x).up' _ (hno x) rfl)
  refine ⟨_, _, .inl hidx, trivial, ?_⟩
  rcases idxL_spec p l 0 with ⟨e1, e2⟩ | ⟨i, e1, e2, e3⟩
  · simp [e1, delRow, e2, hn, flatB_le]
  · have w0 : IntKind.i64.wrap ((i : Int) + 1) = i + 1 := wrap_in (by omega)
    have hne : ¬ ((i : Int) = -1) := by omega
    simp [e1, w0, hne]
    refine LoopK.intro (tr := []) mixed (by kernel_rfl) (fun q : Nat × Nat × List Nbr => [(0, .osl 0 0 n (some c) 15), (1, .fn f fs cs), (5, .int .i64 q.1), (6, .int .i64 q.2.1)]) (fun q => [rowC ceN q.2.2])
      (fun q => q.1 < q.2.1 ∧ q.2.1 ≤ n ∧ q.2.2.length = n ∧ q.2.2.take q.1 = (l.take q.2.1).filter (fun x => !p x) ∧ q.2.2.drop q.2.1 = l.drop q.2.1) (fun q => n - q.2.1) (i, i + 1, l) ?_ ?_ ?_
    · exact ⟨by simp, by simp; omega, hn, e3.symm, rfl⟩
    · simp [flatB_le]
      simpa [low] using hlow 1
    · rintro ⟨a, b, cur⟩ ⟨h1, h2, h3, h4, h5⟩
      simp only at h1 h2 h3 h4 h5
      have hal : a < cur.length := by omega
      by_cases hb : b < n
      · obtain ⟨x, hx, hd⟩ := get_drop (l := l) (i := b) (by omega)
        obtain ⟨y, hy, he⟩ := get_drop (l := cur) (i := b) (by omega)
        rw [hd, he, List.cons.injEq] at h5
        obtain ⟨rfl, h5⟩ := h5
        have hload := (eN).load0 hy
        have hcall := (hp y).up' [rowC ceN cur, ceN y] (hno y) rfl
        have hset := (eN).setOne0 cur a y hal
        have w1 : IntKind.i64.wrap ((b : Int) + 1) = b + 1 := wrap_in (by omega)
        have w2 : IntKind.i64.wrap ((a : Int) + 1) = a + 1 := wrap_in (by omega)
        have htk : (l.take (b + 1)).filter (fun x => !p x) = (l.take b).filter (fun x => !p x) ++ [y].filter (fun x => !p x) := by
          rw [List.take_add_one, hx]; simp
        have hlen2 := (eN).rowLen cur
        have hl := (eN).len y
        have ht := List.all_eq_true.1 ((eN).tree y)
        have hdis := (eN).dis y
        have hyk : (List.take 15 (ceN y)) = ceN y := List.take_of_length_le (by omega)
        have hle := treeCells_le 1 ((eN).tree y)
        have hs0 : setR zN 0 (ceN y) = ceN y := rfl
        simp only [zN] at hs0
        have hl1 := (eN).load0 (l := [y]) (i := 0) rfl
        rw [rowC_one, Nat.zero_mul] at hl1
        clear hn hd he
        by_cases hpx : p y = true
        · simp [hb, hload, hl, ht, hdis, hyk, hs0, hl1, -aload, -setR]
          refine ⟨_, _, .inl (by simpa [cargs, hdis, hyk] using hcall), by simp, ?_⟩
          simp [hpx, w1]
          refine ⟨a, b + 1, cur, ⟨by omega, by omega, h3, by rw [htk]; simp [hpx, h4], h5⟩, by omega, ?_⟩
          simp [flatB_le]
          simpa [low] using hlow 1
        · have hfit : a * 15 + 15 ≤ (rowC ceN cur).length := by omega
          simp [hb, hload, hl, ht, hdis, hyk, hs0, hl1, -aload, -setR]
          refine ⟨_, _, .inl (by simpa [cargs, hdis, hyk] using hcall), by simp, ?_⟩
          have han : a < n := by omega
          have hset' : (cur.set a y).take (a + 1) = (l.take (b + 1)).filter (fun x => !p x) := by
            rw [htk, ← h4, List.take_add_one, List.take_set_of_le (by omega)]
            simp [hal, hpx]
          simp [hpx, han, hfit, hset, hl, hl1, hdis, hyk, w1, w2, -setR, -aload]
          refine ⟨a + 1, b + 1, cur.set a y, ⟨by omega, by omega, by simpa using h3, hset', ?_⟩, by omega, ?_⟩
          · rw [List.drop_set_of_lt (by omega)]; exact h5
          · simp [flatB_le]
            simpa [low] using hlow 1
      · have hbn : b = n := by omega
        subst hbn
        have hlb : l.take b = l := List.take_of_length_le (by omega)
        rw [hlb] at h4
        have hl : (l.filter fun x => !p x).length = a := by
          rw [← h4]; simp; omega
        have hrow := (eN).strike cur a (by omega) ((b - a) * 15) (by rw [h3]) (List.replicate ((b - a) * 15) .undef) (by simp)
        have hfl := (eN).rowLen cur
        have hab : ¬ b - a = 0 := by omega
        have hfit : a * 15 + (b - a) * 15 ≤ (rowC ceN cur).length := by omega
        have z1 : a ≤ b := by omega
        have z2 : a ≤ c := by omega
        simp [z1, z2, hab, hfit, hrow, -setR]
        exact ⟨hl.symm, by rw [delRow, hl, hn, h4]; exact (eN).roomLe _ _ _⟩
set_option maxHeartbeats 4000000 in
set_option maxRecDepth 10000 in
theorem n50_del0 (f : FuncId) (fs cs : List AVal) (hfs : fs.all noid0 = true) (hcs : cs.all noid0 = true)
    (p : Nbr → Bool) (hp : ∀ x, CFun Try.prog f (fs ++ [.agg (ceN x)] ++ cs) [] (.bool (p x)) []) : CFun Try.prog 50 [.sl 15 [] .full, .fn f fs cs] [] (.sl 15 [] .full) [] := by
  refine CFun.intro (tr := []) (fz := []) (n := 42) (rs := [.tmp 4]) Try.func50 rfl (by kernel_rfl) rfl rfl mixed (by kernel_rfl) (by simp) (by simp) ?_
  have hlow : low 0 (.fn f fs cs) = true := noid_low (by simp [noid, hfs, hcs])
  have h := n39_ix [] 0 rfl (by omega) p f fs cs [] hlow (by simp) (fun x hx => by cases hx)
  simp
  refine ⟨_, _, .inl (h.wk [.sl 15 [] .full, .fn f fs cs] (by simp) (by simp)), trivial, ?_⟩
  simp [idxL]


set_option maxHeartbeats 4000000 in
set_option maxRecDepth 10000 in
theorem n41_ins (l : List (Nbr)) (i n : Nat) (hn : l.length = n) (hlen : (n + 1) * 168 ≤ 140737488355328) (hi : i ≤ n) (h0 : 0 < n) (b : Nbr) : CFun Try.prog 41 [.osl 0 0 n (some n) 15, .int .i64 i, .sl 15 [.agg (ceN b)] .sh] [rowC ceN l]
    (.osl 1 0 (n + 1) none 15) [rowC ceN l, rowC ceN (insL l i b)] := by
  refine CFun.intro (tr := [100025, 100040]) (fz := []) (n := 95) (rs := [.tmp 6]) Try.func41 rfl (by kernel_rfl) rfl rfl mixed (by kernel_rfl) (by simp) (by simp) ?_
  have s1 : (n:Int) + 1 < 140737488355330 := by omega
  have w1 : IntKind.i64.wrap ((n : Int) + 1) = n + 1 := wrap_in (by omega)
  have w2 : IntKind.i64.wrap ((i : Int) + 1) = i + 1 := wrap_in (by omega)
  have w3 : IntKind.i64.wrap ((n : Int) + 1 - i) = n + 1 - i := wrap_in (by omega)
  have hfl := (eN).rowLen l
  have hil := insL_len (b := b) (l := l) (i := i) (by omega)
  have htr := (eN).rowTree (insL l i b)
  have hcb : ceN b = rowC ceN [b] := (rowC_one b).symm
  have hbl : (rowC ceN [b]).length = 15 := by rw [(eN).rowLen]; rfl
  have hsrc : asrc [rowC ceN l] (.osl 0 0 i (some n) 15) = some (15, i, rowC ceN (l.take i)) := by
    unfold asrc
    by_cases h0 : i = 0
    · subst h0; rfl
    · simp only [h0, if_false, List.getElem?_cons_zero, Option.bind_some]
      rw [if_pos (by rw [hfl]; simp; omega), List.drop_zero, (eN).rowTake]
  have hsb : ∀ H, asrc H (.sl 15 [.agg (ceN b)] .sh) = some (15, 1, rowC ceN [b]) := fun H => rfl
  have hle0 := (eN).rowLe 2 l
  have hle := (eN).rowLe 2 (insL l i b)
  have hds := (eN).rowDis (insL l i b)
  by_cases h1 : i = n
  · subst h1
    have z1 : (i + 1) * 168 ≤ 140737488355328 := by omega
    have z2 : i ≤ 140737488355327 := by omega
    have e1 : l.take i = l := List.take_of_length_le (by omega)
    have e2 : insL l i b = l ++ [b] := by simp [insL, e1, List.drop_of_length_le (show l.length ≤ i by omega)]
    rw [e1] at hsrc
    rw [e2] at htr hil hle hds ⊢
    simp [hsrc, hsb, -asrc, z1, z2, hds, ← rowC_app, -List.all_eq_true, hle0, hle]
  · have h1' : ¬ ((i:Int) = n) := by omega
    have hsrc2 : ∀ X, asrc (rowC ceN l :: X) (.osl 0 (i * 15) (n - i) (some (n - i)) 15) = some (15, n - i, rowC ceN (l.drop i)) := by
      intro X
      unfold asrc
      simp only [show ¬ n - i = 0 by omega, if_false, List.getElem?_cons_zero, Option.bind_some]
      rw [if_pos (by rw [hfl]; omega), (eN).rowDrop, List.take_of_length_le (by rw [(eN).rowLen]; simp; omega)]
    have hp0 : (0 : Int) ≤ (i : Int) + 1 := by omega
    have hp1 : 0 < (n + 1) * 15 := by omega
    have hi1 : i ≤ n + 1 := by omega
    have hnat : ((n : Int) + 1 - i).toNat = n + 1 - i := by omega
    have hti : (rowC ceN (l.take i)).length = i * 15 := by rw [(eN).rowLen, List.length_take]; congr 1; omega
    have hdr : (rowC ceN (l.drop i)).length = (n - i) * 15 := by rw [(eN).rowLen, List.length_drop, hn]
    have hbt : (rowC ceN [b]).take 15 = rowC ceN [b] := List.take_of_length_le (by rw [hbl]; exact Nat.le_refl _)
    have hLL : (rowC ceN (insL l i b)).length = (n + 1) * 15 := by rw [(eN).rowLen, hil, hn]
    have hdr2 : (rowC ceN (l.drop i)).take ((n - i) * 15) = rowC ceN (l.drop i) := List.take_of_length_le (by rw [hdr]; omega)
    have h2' : ((n:Int) < n + 1) := by omega
    have y1 : (i : Int) ≤ n + 1 := by omega
    have y2 : ((n : Int) + 1 - i) * 168 ≤ 281474976710656 := by omega
    have y3 : (n + 1) * 168 ≤ 140737488355328 := by omega
    have y4 : n ≤ 140737488355327 := by omega
    have m1 : ¬ n + 1 - i = 0 := by omega
    have m2 : min 1 (n + 1 - i) = 1 := by omega
    have m3 : min (n - i) (n - i) = n - i := by omega
    have m4 : ¬ n - i = 0 := by omega
    have m5 : n + 1 - (i + 1) = n - i := by omega
    have m6 : (n + 1 - i) * 15 - 15 - (l.length - i) * 15 = 0 := by omega
    have hset1 := (eN).setFlat (l.take i) i (by simp; omega) (List.replicate ((n + 1 - i) * 15) AVal.undef) [b] (by simp; omega)
    have hset2 := (eN).setFlat (l.take i ++ [b]) (i + 1) (by simp; omega) (List.replicate ((n + 1 - i) * 15 - 15) AVal.undef) (l.drop i) (by simp; omega)
    have hins : l.take i ++ [b] ++ l.drop i = insL l i b := by simp [insL]
    rw [hins] at hset2
    have hft1 : i * 15 + 15 ≤ i * 15 + (n + 1 - i) * 15 := by omega
    have hft2 : i + 1 ≤ n + 1 := by omega
    have hft3 : (i + 1) * 15 + (n - i) * 15 ≤ i * 15 + (n + 1 - i) * 15 := by omega
    have hft4 : (i + 1) * 15 + (n - i) * 15 ≤ (rowC ceN (l.take i ++ [b])).length + ((n + 1 - i) * 15 - 15) := by rw [(eN).rowLen]; simp; omega
    simp [hp0, hp1, y1, y2, y3, y4, m1, m2, m3, m4, m5, m6, hbt, hset1, hset2, hft1, hft2, hft3, hti, hft4, htr, hdr, hdr2, hLL, hi, hi1, h1, h1', h2', w1, w2, w3, hsrc, hsrc2, hsb, -asrc, -setR, hds, (eN).rowDis, (eN).rowScalar, -List.all_eq_true, hnat, hle0, hle]
set_option maxHeartbeats 4000000 in
set_option maxRecDepth 10000 in
theorem n41_insz (b : Nbr) : CFun Try.prog 41 [.sl 15 [] .full, .int .i64 0, .sl 15 [.agg (ceN b)] .sh] [] (.osl 0 0 1 none 15) [rowC ceN [b]] := by
  refine CFun.intro (tr := [100025, 100040]) (fz := []) (n := 95) (rs := [.tmp 6]) Try.func41 rfl (by kernel_rfl) rfl rfl mixed (by kernel_rfl) (by simp) (by simp) ?_
  have hds := (eN).rowDis [b]
  have hle := (eN).rowLe 1 [b]
  rw [rowC_one] at hds hle ⊢
  simp [hds, hle]

end Go.Proofs.Yticijodoelphcaa
