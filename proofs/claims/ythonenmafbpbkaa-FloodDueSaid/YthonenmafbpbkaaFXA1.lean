/- The exchange of databases: rows in order, searches. -/
import Derived.Test.YthonenmafbpbkaaFXP2
import Derived.Test.YthonenmafbpbkaaBmAA
import Derived.Test.YthonenmafbpbkaaBmAD
set_option linter.unusedSimpArgs false
set_option linter.unusedVariables false
namespace Go.Proofs.Ythonenmafbpbkaa
open Go Go.Am
set_option maxHeartbeats 4000000 in
set_option maxRecDepth 10000 in
theorem x20 (l : List Hdr) (n : Nat) (hn : l.length = n) (hlen : n < 8796093022208) (k : LKey) : CFun Try.prog 62 [.sl 7 (l.map encH) .sh, encY k] [] (.int .i64 (idxL (hasKH k) l 0)) [] := by
 refine CFun.intro (tr := []) (fz := []) (n := 20) (rs := [.tmp 4]) Try.func62 rfl (by kernel_rfl) rfl rfl mixed (by kernel_rfl) (by simp) (by simp) ?_
 simp
 refine LoopK.intro (tr := []) mixed (by kernel_rfl) (fun i : Nat => [(0, .sl 7 (l.map encH) .sh), (3, .ptr 0 0), (5, .int .i64 i)]) (fun _ => [cellsY k]) (fun i => i ≤ n ∧ idxL (hasKH k) l 0 = idxL (hasKH k) (l.drop i) i) (fun i => n - i) 0 ?_ ?_ ?_
 · simp
 · simp
 · rintro i ⟨h1, h2⟩
   by_cases hi : i < n
   · obtain ⟨x, hx, hd⟩ := get_drop (l := l) (i := i) (by omega)
     rw [hd] at h2
     simp only [idxL] at h2
     have w1 : IntKind.i64.wrap ((i : Int) + 1) = i + 1 := wrap_in (by omega)
     have h := fun H => (c26 x).up' H rfl rfl
     have hk := keyY_iff (keyH x) k
     have hh : hasKH k x = decide (keyH x = k) := rfl
     rw [hh] at h2
     generalize keyH x = q at h hk h2
     clear hd hh
     simp [hi, hn, hx, gE hx]
     refine ⟨_, _, .inl (by simpa using h _), by simp, ?_⟩
     by_cases hb : q = k
     · subst hb
       simp at h2
       simp [h2]
     · rw [if_neg (by simpa using hb)] at h2
       rw [decide_eq_false hb] at hk
       simp only [Bool.and_eq_false_iff, beq_eq_false_iff_ne] at hk
       have hk2 : ¬ (q.Ty = k.Ty ∧ q.ID = k.ID ∧ q.Len = k.Len ∧ q.Router = k.Router) := by
         rintro ⟨r1, r2, r3, r4⟩
         cases q; cases k; simp_all
       simp [hk2, w1]
       exact ⟨i + 1, ⟨by omega, h2⟩, by omega, by simp⟩
   · have : i = n := by omega
     subst this
     rw [List.drop_eq_nil_of_le (by omega)] at h2
     simp [hn, h2, idxL]
end Go.Proofs.Ythonenmafbpbkaa

/- Rows of headers: the library's functions. -/
namespace Go.Proofs.Ythonenmafbpbkaa
open Go Go.Am
def ceH (h : Hdr) : List AVal := cellsH h
theorem eHh : Enc ceH 7 where
  pos := by omega
  len x := rfl
  dis x := rfl
  tree x := by simp [AVal.tree, ceH]
def zH : List AVal := [.int .i64 0, .int .u32 0, .int .i64 0, .int .u32 0, .int .i64 0, .int .i64 0, .int .i64 0]
set_option maxHeartbeats 4000000 in
set_option maxRecDepth 10000 in
theorem ch_cl (l : List Hdr) (s1 : l.length * 56 ≤ 140737488355328) : CFun Try.prog 59 [.sl 7 (l.map fun x => AVal.agg (ceH x)) .sh] [] (.sl 7 (l.map fun x => AVal.agg (ceH x)) .sh) [] := by
 refine CFun.intro (tr := []) (fz := []) (n := 8) (rs := [.tmp 2]) Try.func59 rfl (by kernel_rfl) rfl rfl mixed (by kernel_rfl) (by simp) (by simp) ?_
 have s2 : l.length ≤ 140737488355328 := by omega
 cases l with
 | nil => simp
 | cons x xs =>
   simp only [List.length_cons] at s1 s2
   simp [s1, s2]
set_option maxHeartbeats 4000000 in
set_option maxRecDepth 10000 in
theorem ch_clr (l : List Hdr) (hne : l ≠ []) (s1 : l.length * 56 ≤ 140737488355328) : CFun Try.prog 59 [.sl 7 (l.map fun x => AVal.agg (ceH x)) .sh] [] (.osl 0 0 l.length none 7) [rowC ceH l] := by
 refine CFun.intro (tr := [100007]) (fz := []) (n := 8) (rs := [.tmp 2]) Try.func59 rfl (by kernel_rfl) rfl rfl mixed (by kernel_rfl) (by simp) (by simp) ?_
 have s2 : l.length ≤ 140737488355328 := by omega
 have s3 : 0 < l.length := List.length_pos_iff.2 hne
 have s4 : (l.map fun x => AVal.agg (ceH x)).isEmpty = false := by cases l <;> simp_all
 have s5 := rowC_map (ce := ceH) l
 simp [hne, s1, s2, s3, s4]
 rw [s5, (eHh).rowDis]
 exact (eHh).rowLe 1 l
set_option maxHeartbeats 4000000 in
set_option maxRecDepth 10000 in
theorem ch_cl0 : CFun Try.prog 59 [.sl 7 [] .sh] [] (.sl 7 [] .full) [] := by
 refine CFun.intro (tr := [100007]) (fz := []) (n := 8) (rs := [.tmp 2]) Try.func59 rfl (by kernel_rfl) rfl rfl mixed (by kernel_rfl) (by simp) (by simp) ?_
 simp
set_option maxHeartbeats 4000000 in
set_option maxRecDepth 10000 in
theorem ih_ix (l : List Hdr) (n : Nat) (hn : l.length = n) (hlen : n < 8796093022208) (p : Hdr → Bool) (f : FuncId) (fs cs : List AVal) (H : List (List AVal)) (hf : low H.length (.fn f fs cs) = true) (hH : LeBoxes H.length H H)
   (hp : ∀ x ∈ l, CFun Try.prog f (fs ++ [.agg (ceH x)] ++ cs) H (.bool (p x)) H) : CFun Try.prog 80 [.sl 7 (l.map fun x => AVal.agg (ceH x)) .sh, .fn f fs cs] H (.int .i64 (idxL p l 0)) H := by
 refine CFun.intro (tr := []) (fz := []) (n := 19) (rs := [.tmp 4]) Try.func80 rfl (by kernel_rfl) rfl rfl mixed (by kernel_rfl) (by simp) (by simp) ?_
 simp
 refine LoopK.intro (tr := []) mixed (by kernel_rfl) (fun i : Nat => [(0, .sl 7 (l.map fun x => AVal.agg (ceH x)) .sh), (1, .fn f fs cs), (7, .int .i64 n), (8, .int .i64 i)]) (fun _ => H) (fun i => i ≤ n ∧ idxL p l 0 = idxL p (l.drop i) i) (fun i => n - i) 0 ?_ ?_ ?_
 · simp
 · simp [hn, hH]
   simpa [low] using hf
 · rintro i ⟨h1, h2⟩
   by_cases hi : i < n
   · obtain ⟨x, hx, hd⟩ := get_drop (l := l) (i := i) (by omega)
     have hpx := hp x (List.mem_of_getElem? hx)
     rw [hd] at h2
     clear hd hn
     have w1 : IntKind.i64.wrap ((i : Int) + 1) = i + 1 := wrap_in (by omega)
     have hl := (eHh).len x
     have ht := List.all_eq_true.1 ((eHh).tree x)
     have hdis := (eHh).dis x
     have htk : (List.take 7 (ceH x)) = ceH x := List.take_of_length_le (by omega)
     simp [hi, hx, hl, ht, hdis, htk]
     refine ⟨_, _, .inl (by simpa [cargs] using hpx), by simp, ?_⟩
     simp only [idxL] at h2
     by_cases hpb : p x = true
     · simp [hpb, hH, h2]
     · rw [if_neg hpb] at h2
       simp [hpb, w1, hH]
       refine ⟨i + 1, ⟨by omega, h2⟩, by omega, ?_⟩
       simp
       simpa [low] using hf
   · have : i = n := by omega
     subst this
     rw [List.drop_eq_nil_of_le (by omega)] at h2
     simp [h2, idxL, hH]
set_option maxHeartbeats 4000000 in
set_option maxRecDepth 10000 in
theorem ih_ixr (l : List Hdr) (rest : List AVal) (n : Nat) (hn : l.length = n) (hlen : n < 8796093022208) (p : Hdr → Bool) (f : FuncId) (fs cs : List AVal) (H : List (List AVal)) (id : Nat) (cap : Option Nat) (hid : H[id]? = some (rowC ceH l ++ rest))
   (hf : low H.length (.fn f fs cs) = true) (hH : LeBoxes H.length H H)
   (hp : ∀ x ∈ l, CFun Try.prog f (fs ++ [.agg (ceH x)] ++ cs) H (.bool (p x)) H) : CFun Try.prog 80 [.osl id 0 n cap 7, .fn f fs cs] H (.int .i64 (idxL p l 0)) H := by
 have hidl : id < H.length := (List.getElem?_eq_some_iff.1 hid).1
 refine CFun.intro (tr := []) (fz := []) (n := 19) (rs := [.tmp 4]) Try.func80 rfl (by kernel_rfl) rfl rfl mixed (by kernel_rfl) (by simp) (by simp) ?_
 simp
 refine LoopK.intro (tr := []) mixed (by kernel_rfl) (fun i : Nat => [(0, .osl id 0 n cap 7), (1, .fn f fs cs), (7, .int .i64 n), (8, .int .i64 i)]) (fun _ => H) (fun i => i ≤ n ∧ idxL p l 0 = idxL p (l.drop i) i) (fun i => n - i) 0 ?_ ?_ ?_
 · simp
 · simp [hH, hidl]
   simpa [low] using hf
 · rintro i ⟨h1, h2⟩
   by_cases hi : i < n
   · obtain ⟨x, hx, hd⟩ := get_drop (l := l) (i := i) (by omega)
     have hpx := hp x (List.mem_of_getElem? hx)
     have hload := (eHh).load hx rest
     rw [hd] at h2
     clear hd hn
     have w1 : IntKind.i64.wrap ((i : Int) + 1) = i + 1 := wrap_in (by omega)
     simp [hi, hid, hload, -aload]
     refine ⟨_, _, .inl (by simpa [cargs] using hpx), by simp, ?_⟩
     simp only [idxL] at h2
     by_cases hpb : p x = true
     · simp [hpb, hH, h2]
     · rw [if_neg hpb] at h2
       simp [hpb, w1, hH]
       refine ⟨i + 1, ⟨by omega, h2⟩, by omega, ?_⟩
       simp [hidl]
       simpa [low] using hf
   · have : i = n := by omega
     subst this
     rw [List.drop_eq_nil_of_le (by omega)] at h2
     simp [h2, idxL, hH]
set_option maxHeartbeats 4000000 in
set_option maxRecDepth 10000 in
theorem dh_del (l : List Hdr) (n c : Nat) (hn : l.length = n) (hc : n ≤ c) (hlen : n < 8796093022208) (p : Hdr → Bool) (f : FuncId) (fs cs : List AVal) (hfs : fs.all noid0 = true) (hcs : cs.all noid0 = true)
   (hp : ∀ x, CFun Try.prog f (fs ++ [.agg (ceH x)] ++ cs) [] (.bool (p x)) []) : CFun Try.prog 50 [.osl 0 0 n (some c) 7, .fn f fs cs] [rowC ceH l] (.osl 0 0 (l.filter fun x => !p x).length (some c) 7) [delRow ceH 7 p l] := by
 have n01 : ∀ y : AVal, noid0 y = true → noid y = true := by
   intro y hy
   cases y <;> first | rfl | (simp [noid0] at hy)
 have hno : ∀ x : Hdr, (fs ++ [AVal.agg (ceH x)] ++ cs).all noid = true := by
   intro x
   simp only [List.all_append, Bool.and_eq_true]
   exact ⟨⟨List.all_eq_true.2 fun y hy => n01 y (List.all_eq_true.1 hfs y hy), rfl⟩, List.all_eq_true.2 fun y hy => n01 y (List.all_eq_true.1 hcs y hy)⟩
 have hlow : ∀ k, low k (.fn f fs cs) = true := fun k => noid_low (by simp [noid, hfs, hcs])
 have flatB_le := (eHh).rowLe
 refine CFun.intro (tr := []) (fz := []) (n := 42) (rs := [.tmp 4]) Try.func50 rfl (by kernel_rfl) rfl rfl mixed (by kernel_rfl) (by simp) (by simp) ?_
 simp
 have hidx := ih_ixr l [] n hn hlen p f fs cs [rowC ceH l] 0 (some c) (by simp) (hlow _) (by simp [flatB_le]) (fun x _ => (hp x).up' _ (hno x) rfl)
 refine ⟨_, _, .inl hidx, trivial, ?_⟩
 rcases idxL_spec p l 0 with ⟨e1, e2⟩ | ⟨i, e1, e2, e3⟩
 · simp [e1, delRow, e2, hn, flatB_le]
 · have w0 : IntKind.i64.wrap ((i : Int) + 1) = i + 1 := wrap_in (by omega)
   have hne : ¬ ((i : Int) = -1) := by omega
   simp [e1, w0, hne]
   refine LoopK.intro (tr := []) mixed (by kernel_rfl) (fun q : Nat × Nat × List Hdr => [(0, .osl 0 0 n (some c) 7), (1, .fn f fs cs), (5, .int .i64 q.1), (6, .int .i64 q.2.1)]) (fun q => [rowC ceH q.2.2])
     (fun q => q.1 < q.2.1 ∧ q.2.1 ≤ n ∧ q.2.2.length = n ∧ q.2.2.take q.1 = (l.take q.2.1).filter (fun x => !p x) ∧ q.2.2.drop q.2.1 = l.drop q.2.1) (fun q => n - q.2.1) (i, i + 1, l) ?_ ?_ ?_
   · exact ⟨by simp, by simp; omega, hn, e3.symm, rfl⟩
   · simp [flatB_le]
     simpa [low] using hlow 1
   · rintro ⟨a, b, cur⟩ ⟨h1, h2, h3, h4, h5⟩
     simp only at h1 h2 h3 h4 h5
     have hal : a < cur.length := by omega
     by_cases hb : b < n
     · obtain ⟨x, hx, hd⟩ := get_drop (l := l) (i := b) (by omega)
       obtain ⟨y, hy, he⟩ := get_drop (l := cur) (i := b) (by omega)
       rw [hd, he, List.cons.injEq] at h5
       obtain ⟨rfl, h5⟩ := h5
       have hload := (eHh).load0 hy
       have hcall := (hp y).up' [rowC ceH cur, ceH y] (hno y) rfl
       have hset := (eHh).setOne0 cur a y hal
       have w1 : IntKind.i64.wrap ((b : Int) + 1) = b + 1 := wrap_in (by omega)
       have w2 : IntKind.i64.wrap ((a : Int) + 1) = a + 1 := wrap_in (by omega)
       have htk : (l.take (b + 1)).filter (fun x => !p x) = (l.take b).filter (fun x => !p x) ++ [y].filter (fun x => !p x) := by
         rw [List.take_add_one, hx]; simp
       have hlen2 := (eHh).rowLen cur
       have hl := (eHh).len y
       have ht := List.all_eq_true.1 ((eHh).tree y)
       have hdis := (eHh).dis y
       have hyk : (List.take 7 (ceH y)) = ceH y := List.take_of_length_le (by omega)
       have hle := treeCells_le 1 ((eHh).tree y)
       have hs0 : setR zH 0 (ceH y) = ceH y := rfl
       simp only [zH] at hs0
       have hl1 := (eHh).load0 (l := [y]) (i := 0) rfl
       rw [rowC_one, Nat.zero_mul] at hl1
       clear hn hd he
       by_cases hpx : p y = true
       · simp [hb, hload, hl, ht, hdis, hyk, hs0, hl1, -aload, -setR]
         refine ⟨_, _, .inl (by simpa [cargs, hdis, hyk] using hcall), by simp, ?_⟩
         simp [hpx, w1]
         refine ⟨a, b + 1, cur, ⟨by omega, by omega, h3, by rw [htk]; simp [hpx, h4], h5⟩, by omega, ?_⟩
         simp [flatB_le]
         simpa [low] using hlow 1
       · have hfit : a * 7 + 7 ≤ (rowC ceH cur).length := by omega
         simp [hb, hload, hl, ht, hdis, hyk, hs0, hl1, -aload, -setR]
         refine ⟨_, _, .inl (by simpa [cargs, hdis, hyk] using hcall), by simp, ?_⟩
         have han : a < n := by omega
         have hset' : (cur.set a y).take (a + 1) = (l.take (b + 1)).filter (fun x => !p x) := by
           rw [htk, ← h4, List.take_add_one, List.take_set_of_le (by omega)]
           simp [hal, hpx]
         simp [hpx, han, hfit, hset, hl, hl1, hdis, hyk, w1, w2, -setR, -aload]
         refine ⟨a + 1, b + 1, cur.set a y, ⟨by omega, by omega, by simpa using h3, hset', ?_⟩, by omega, ?_⟩
         · rw [List.drop_set_of_lt (by omega)]; exact h5
         · simp [flatB_le]
           simpa [low] using hlow 1
     · have hbn : b = n := by omega
       subst hbn
       have hlb : l.take b = l := List.take_of_length_le (by omega)
       rw [hlb] at h4
       have hl : (l.filter fun x => !p x).length = a := by
         rw [← h4]; simp; omega
       have hrow := (eHh).strike cur a (by omega) ((b - a) * 7) (by rw [h3]) (List.replicate ((b - a) * 7) .undef) (by simp)
       have hfl := (eHh).rowLen cur
       have hab : ¬ b - a = 0 := by omega
       have hfit : a * 7 + (b - a) * 7 ≤ (rowC ceH cur).length := by omega
       have z1 : a ≤ b := by omega
       have z2 : a ≤ c := by omega
       simp [z1, z2, hab, hfit, hrow, -setR]
       exact ⟨hl.symm, by rw [delRow, hl, hn, h4]; exact (eHh).roomLe _ _ _⟩
set_option maxHeartbeats 4000000 in
set_option maxRecDepth 10000 in
theorem dh_del0 (f : FuncId) (fs cs : List AVal) (hfs : fs.all noid0 = true) (hcs : cs.all noid0 = true)
   (p : Hdr → Bool) (hp : ∀ x, CFun Try.prog f (fs ++ [.agg (ceH x)] ++ cs) [] (.bool (p x)) []) : CFun Try.prog 50 [.sl 7 [] .full, .fn f fs cs] [] (.sl 7 [] .full) [] := by
 refine CFun.intro (tr := []) (fz := []) (n := 42) (rs := [.tmp 4]) Try.func50 rfl (by kernel_rfl) rfl rfl mixed (by kernel_rfl) (by simp) (by simp) ?_
 have hlow : low 0 (.fn f fs cs) = true := noid_low (by simp [noid, hfs, hcs])
 have h := ih_ix [] 0 rfl (by omega) p f fs cs [] hlow (by simp) (fun x hx => by cases hx)
 simp
 refine ⟨_, _, .inl (h.wk [.sl 7 [] .full, .fn f fs cs] (by simp) (by simp)), trivial, ?_⟩
 simp [idxL]
end Go.Proofs.Ythonenmafbpbkaa

/- The exchange of databases: what is pending, what is requested, what is sent again. -/
namespace Go.Proofs.Ythonenmafbpbkaa
open Go Go.Am
theorem ch_row (l : List Hdr) (s1 : l.length * 56 ≤ 140737488355328) : CFun Try.prog 59 [.sl 7 (l.map encH) .sh] [] (.sl 7 (l.map encH) .sh) [] := ch_cl l s1
end Go.Proofs.Ythonenmafbpbkaa

/- Less is known of the variables. -/
