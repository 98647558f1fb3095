/- Headers in the order of their keys: what was shown of advertisements, shown of headers. -/
import Derived.Test.YthonenmafbpbkaaFXS3
import Derived.Test.YthonenmafbpbkaaBmAA
import Derived.Test.YthonenmafbpbkaaFXDS14
import Derived.Test.YthonenmafbpbkaaBmAJ
set_option linter.unusedSimpArgs false
set_option linter.unusedVariables false
namespace Go.Proofs.Ythonenmafbpbkaa
open Go Go.Am
def ascH (db : List Hdr) : Prop := db.Pairwise fun x y => ltY (keyH x) (keyH y)
def hasKH (k : LKey) (l : Hdr) : Bool := decide (keyH l = k)
def posH (db : List Hdr) (k : LKey) : Nat := posF (fun x => !decide (ltY (keyH x) k)) db
def fndH (db : List Hdr) (k : LKey) : Bool := match db[posH db k]? with
 | some x => decide (keyH x = k)
 | none => false
def putRH (db : List Hdr) (l : Hdr) : List Hdr := if fndH db (keyH l) = true then db.set (posH db (keyH l)) l else insL db (posH db (keyH l)) l
def putH (l : Hdr) : List Hdr → List Hdr
 | [] => [l]
 | x :: xs => if ltY (keyH l) (keyH x) then l :: x :: xs else if keyH l = keyH x then l :: xs else x :: putH l xs
theorem putH_R (l : Hdr) : ∀ {db : List Hdr}, ascH db → putRH db l = putH l db := by
 intro db
 induction db with
 | nil => intro _; rfl
 | cons x xs ih =>
   intro h
   simp only [ascH, List.pairwise_cons] at h
   simp only [putH]
   unfold putRH fndH posH
   rw [posF_cons]
   rcases ltY_tri (keyH l) (keyH x) with h1 | h1 | h1
   · have h2 := ltY_asymm h1
     have h3 : ¬ keyH x = keyH l := fun e => ltY_ne h1 e.symm
     simp [h1, h2, h3, insL]
   · simp [h1, ltY_irrefl]
   · have h2 := ltY_asymm h1
     have h3 : ¬ keyH l = keyH x := fun e => ltY_ne h1 e.symm
     rw [if_neg h2, if_neg h3, ← ih h.2]
     unfold putRH fndH posH
     simp [h1, insL]
     split
     · split <;> rfl
     · rfl
theorem fndH_iff {db : List Hdr} (h : ascH db) (k : LKey) : fndH db k = true ↔ ∃ x ∈ db, keyH x = k := by
 induction db with
 | nil => simp [fndH, posH, posF]
 | cons x xs ih =>
   simp only [ascH, List.pairwise_cons] at h
   unfold fndH posH
   rw [posF_cons]
   by_cases h1 : ltY (keyH x) k
   · have := ih h.2
     unfold fndH posH at this
     simp [h1] at this ⊢
     rw [this]
     constructor
     · exact .inr
     · rintro (e | e)
       · exact (ltY_ne h1 e).elim
       · exact e
   · simp [h1]
     intro y hy e
     subst e
     exact (h1 (h.1 y hy)).elim
def insWH (b : Hdr) : Bool → List Hdr → List Hdr
 | done, [] => if done = true then [] else [b]
 | done, x :: xs => (if done = false ∧ cmpY (keyH b) (keyH x) ≤ 0 then [b] else []) ++ ((if cmpY (keyH b) (keyH x) ≠ 0 then [x] else []) ++ insWH b (done || decide (cmpY (keyH b) (keyH x) ≤ 0)) xs)
theorem insWH_true (b : Hdr) : ∀ xs : List Hdr, (∀ x ∈ xs, keyH b ≠ keyH x) → insWH b true xs = xs := by
 intro xs
 induction xs with
 | nil => intro _; rfl
 | cons x xs ih =>
   intro h
   have h1 : cmpY (keyH b) (keyH x) ≠ 0 := fun e => h x (by simp) ((cmpY_zero _ _).1 e)
   simp only [insWH]
   rw [if_neg (by simp), if_pos h1, Bool.true_or, ih fun y hy => h y (List.mem_cons_of_mem _ hy)]
   rfl
theorem insWH_put (b : Hdr) : ∀ {xs : List Hdr}, ascH xs → insWH b false xs = putH b xs := by
 intro xs
 induction xs with
 | nil => intro _; rfl
 | cons x xs ih =>
   intro h
   simp only [ascH, List.pairwise_cons] at h
   simp only [insWH, putH, Bool.false_or]
   by_cases h1 : ltY (keyH b) (keyH x)
   · have h1' : cmpY (keyH b) (keyH x) < 0 := h1
     rw [if_pos h1, if_pos ⟨trivial, by omega⟩, if_pos (by omega), decide_eq_true (by omega), insWH_true]
     · rfl
     · intro y hy
       exact ltY_ne (ltY_trans h1 (h.1 y hy))
   · have h1' : ¬ cmpY (keyH b) (keyH x) < 0 := h1
     rw [if_neg h1]
     by_cases h2 : keyH b = keyH x
     · have e : cmpY (keyH b) (keyH x) = 0 := (cmpY_zero _ _).2 h2
       rw [if_pos h2, e, if_pos ⟨trivial, by omega⟩, if_neg (by omega), decide_eq_true (by omega), insWH_true]
       · rfl
       · intro y hy
         rw [h2]
         exact ltY_ne (h.1 y hy)
     · have e : cmpY (keyH b) (keyH x) ≠ 0 := fun q => h2 ((cmpY_zero _ _).1 q)
       rw [if_neg h2, if_neg (by omega), if_pos e, decide_eq_false (by omega), ih h.2]
       rfl
end Go.Proofs.Ythonenmafbpbkaa

/- The exchange of databases: rows in order, searches. -/
namespace Go.Proofs.Ythonenmafbpbkaa
open Go Go.Am
def ordH : List Hdr → Bool
 | x :: y :: l => if 0 ≤ cmpY (keyH x) (keyH y) then false else ordH (y :: l)
 | _ => true
set_option maxHeartbeats 4000000 in
set_option maxRecDepth 10000 in
theorem x19 (l : List Hdr) (n : Nat) (hn : l.length = n) (hlen : n < 8796093022208) : CFun Try.prog 35 [.sl 7 (l.map encH) .sh] [] (.bool (ordH l)) [] := by
 refine CFun.intro (tr := []) (fz := []) (n := 23) (rs := [.tmp 2]) Try.func35 rfl (by kernel_rfl) rfl rfl mixed (by kernel_rfl) (by simp) (by simp) ?_
 simp
 refine LoopK.intro (tr := []) mixed (by kernel_rfl) (fun i : Nat => [(0, .sl 7 (l.map encH) .sh), (3, .int .i64 ((i : Int) + 1))]) (fun _ => []) (fun i => i ≤ n ∧ ordH l = ordH (l.drop i)) (fun i => n - i) 0 ?_ ?_ ?_
 · simp
 · simp
 · rintro i ⟨h1, h2⟩
   by_cases hi : i + 1 < n
   · obtain ⟨x, hx, hd⟩ := get_drop (l := l) (i := i) (by omega)
     obtain ⟨y, hy, he⟩ := get_drop (l := l) (i := i + 1) (by omega)
     rw [hd, he] at h2
     simp only [ordH] at h2
     rw [← he] at h2
     have w1 : IntKind.i64.wrap ((i : Int) + 1 + 1) = (i : Int) + 1 + 1 := wrap_in (by omega)
     have w2 : IntKind.i64.wrap (i : Int) = (i : Int) := wrap_in (by omega)
     have b1 : (i : Int) + 1 < n := by omega
     have b2 : (i : Int) ≤ n := by omega
     have e1 : ((i : Int) + 1).toNat = i + 1 := by omega
     have b3 : 0 ≤ (i : Int) + 1 := by omega
     have k1 := fun H => (c26 x).up' H rfl rfl
     have k2 := fun H => (c26 y).up' H rfl rfl
     have k3 := fun H => (c28 (keyH x) (keyH y)).up' H rfl rfl
     generalize keyH x = kx at k1 k3 h2
     generalize keyH y = ky at k2 k3 h2
     clear hd he
     simp [hn, b1, b3, w2, hx, hy, gE hx, gE hy, e1]
     refine ⟨_, _, .inl (by simpa using k1 _), by simp, ?_⟩
     simp [hn, b1, b3, w2, hx, hy, gE hx, gE hy, e1]
     refine ⟨_, _, .inl (by simpa using k2 _), by simp, ?_⟩
     simp
     refine ⟨_, _, .inl (by simpa using k3 _), by simp, ?_⟩
     by_cases hc : 0 ≤ cmpY kx ky
     · rw [if_pos hc] at h2
       simp [hc, h2]
     · rw [if_neg hc] at h2
       simp [hc, w1]
       exact ⟨i + 1, ⟨by omega, h2⟩, by omega, by simp⟩
   · have b1 : ¬ (i : Int) + 1 < n := by omega
     have e : ordH (l.drop i) = true := by
       cases hq : l.drop i with
       | nil => rfl
       | cons x r =>
         cases r with
         | nil => rfl
         | cons y r =>
           have := congrArg List.length hq
           simp at this
           omega
     simp [hn, b1, h2, e]
set_option maxHeartbeats 4000000 in
set_option maxRecDepth 10000 in
theorem x20 (l : List Hdr) (n : Nat) (hn : l.length = n) (hlen : n < 8796093022208) (k : LKey) : CFun Try.prog 62 [.sl 7 (l.map encH) .sh, encY k] [] (.int .i64 (idxL (hasKH k) l 0)) [] := by
 refine CFun.intro (tr := []) (fz := []) (n := 20) (rs := [.tmp 4]) Try.func62 rfl (by kernel_rfl) rfl rfl mixed (by kernel_rfl) (by simp) (by simp) ?_
 simp
 refine LoopK.intro (tr := []) mixed (by kernel_rfl) (fun i : Nat => [(0, .sl 7 (l.map encH) .sh), (3, .ptr 0 0), (5, .int .i64 i)]) (fun _ => [cellsY k]) (fun i => i ≤ n ∧ idxL (hasKH k) l 0 = idxL (hasKH k) (l.drop i) i) (fun i => n - i) 0 ?_ ?_ ?_
 · simp
 · simp
 · rintro i ⟨h1, h2⟩
   by_cases hi : i < n
   · obtain ⟨x, hx, hd⟩ := get_drop (l := l) (i := i) (by omega)
     rw [hd] at h2
     simp only [idxL] at h2
     have w1 : IntKind.i64.wrap ((i : Int) + 1) = i + 1 := wrap_in (by omega)
     have h := fun H => (c26 x).up' H rfl rfl
     have hk := keyY_iff (keyH x) k
     have hh : hasKH k x = decide (keyH x = k) := rfl
     rw [hh] at h2
     generalize keyH x = q at h hk h2
     clear hd hh
     simp [hi, hn, hx, gE hx]
     refine ⟨_, _, .inl (by simpa using h _), by simp, ?_⟩
     by_cases hb : q = k
     · subst hb
       simp at h2
       simp [h2]
     · rw [if_neg (by simpa using hb)] at h2
       rw [decide_eq_false hb] at hk
       simp only [Bool.and_eq_false_iff, beq_eq_false_iff_ne] at hk
       have hk2 : ¬ (q.Ty = k.Ty ∧ q.ID = k.ID ∧ q.Len = k.Len ∧ q.Router = k.Router) := by
         rintro ⟨r1, r2, r3, r4⟩
         cases q; cases k; simp_all
       simp [hk2, w1]
       exact ⟨i + 1, ⟨by omega, h2⟩, by omega, by simp⟩
   · have : i = n := by omega
     subst this
     rw [List.drop_eq_nil_of_le (by omega)] at h2
     simp [hn, h2, idxL]
def sansH (at_ : Nat) : Nat → List Hdr → List Hdr
 | _, [] => []
 | i, x :: l => if i = at_ then sansH at_ (i + 1) l else x :: sansH at_ (i + 1) l
theorem sansH_erase (at_ : Nat) : ∀ (l : List Hdr) (i : Nat), i ≤ at_ → sansH at_ i l = l.eraseIdx (at_ - i)
 | [], i, _ => by simp [sansH]
 | x :: l, i, h => by
   have past : ∀ (l : List Hdr) (i : Nat), at_ < i → sansH at_ i l = l := by
     intro l
     induction l with
     | nil => intro i _; rfl
     | cons y l ih =>
       intro i hi
       simp only [sansH]
       rw [if_neg (by omega), ih (i + 1) (by omega)]
   simp only [sansH]
   by_cases e : i = at_
   · subst e
     rw [if_pos rfl, past l (i + 1) (by omega)]
     simp
   · rw [if_neg e, sansH_erase at_ l (i + 1) (by omega)]
     obtain ⟨d, hd⟩ : ∃ d, at_ - i = d + 1 := ⟨at_ - i - 1, by omega⟩
     rw [hd, List.eraseIdx_cons_succ, show at_ - (i + 1) = d by omega]
set_option maxHeartbeats 4000000 in
set_option maxRecDepth 10000 in
theorem x89 (l : List Hdr) (n at_ : Nat) (hn : l.length = n) (hlen : n * 56 ≤ 140737488351232) : CFun Try.prog 108 [.sl 7 (l.map encH) .sh, .int .i64 at_] [] (.sl 7 ((l.eraseIdx at_).map encH) .sh) [] := by
 have e0 := sansH_erase at_ l 0 (by omega)
 simp only [Nat.sub_zero] at e0
 rw [← e0]
 refine CFun.intro (tr := [17]) (fz := []) (n := 25) (rs := [.tmp 4]) Try.func108 rfl (by kernel_rfl) rfl rfl mixed (by kernel_rfl) (by simp) (by simp) ?_
 simp
 refine LoopK.intro (tr := [17]) mixed (by kernel_rfl) (fun q : Nat × List Hdr => [(0, .sl 7 (l.map encH) .sh), (1, .int .i64 at_), (5, .sl 7 (q.2.map encH) .own), (6, .int .i64 q.1)]) (fun _ => [])
   (fun q => q.1 ≤ n ∧ q.2.length ≤ q.1 ∧ q.2 ++ sansH at_ q.1 (l.drop q.1) = sansH at_ 0 l) (fun q => n - q.1) (0, []) ?_ ?_ ?_
 · simp
 · simp
 · rintro ⟨i, o⟩ ⟨h1, h3, h2⟩
   simp only at h1 h2 h3
   by_cases hi : i < n
   · have s1 : o.length + 1 ≤ 140737488355328 := by omega
     have s2 : (o.length + 1) * 56 ≤ 140737488355328 := by omega
     obtain ⟨x, hx, hd⟩ := get_drop (l := l) (i := i) (by omega)
     rw [hd] at h2
     simp only [sansH] at h2
     have w1 : IntKind.i64.wrap ((i : Int) + 1) = i + 1 := wrap_in (by omega)
     clear hd
     by_cases e : i = at_
     · rw [if_pos e] at h2
       subst e
       simp [hi, hn, w1]
       exact ⟨i + 1, o, ⟨by omega, by omega, h2⟩, by omega, by simp⟩
     · rw [if_neg e] at h2
       have e' : ¬ (i : Int) = at_ := by omega
       simp [hi, hn, hx, gE hx, w1, e', s1, s2]
       refine ⟨i + 1, o ++ [x], ⟨by omega, by simp; omega, by simpa using h2⟩, by omega, by simp⟩
   · have : i = n := by omega
     subst this
     rw [List.drop_eq_nil_of_le (by omega)] at h2
     simp only [sansH, List.append_nil] at h2
     simp [hn, h2]
end Go.Proofs.Ythonenmafbpbkaa

/- The exchange of databases: a request that is answered. -/
namespace Go.Proofs.Ythonenmafbpbkaa
open Go Go.Am
theorem ordH_asc : ∀ {l : List Hdr}, ordH l = true → ascH l
 | [], _ => List.Pairwise.nil
 | [x], _ => by simp [ascH]
 | x :: y :: l, h => by
   simp only [ordH] at h
   split at h
   · cases h
   rename_i hc
   have hxy : ltY (keyH x) (keyH y) := by unfold ltY; omega
   have ih := ordH_asc h
   refine List.Pairwise.cons (fun z hz => ?_) ih
   rcases List.mem_cons.1 hz with rfl | hz
   · exact hxy
   · exact ltY_trans hxy (List.rel_of_pairwise_cons ih hz)
end Go.Proofs.Ythonenmafbpbkaa

/- Rows of headers: the library's functions. -/
namespace Go.Proofs.Ythonenmafbpbkaa
open Go Go.Am
def ceH (h : Hdr) : List AVal := cellsH h
theorem eHh : Enc ceH 7 where
  pos := by omega
  len x := rfl
  dis x := rfl
  tree x := by simp [AVal.tree, ceH]
def zH : List AVal := [.int .i64 0, .int .u32 0, .int .i64 0, .int .u32 0, .int .i64 0, .int .i64 0, .int .i64 0]
set_option maxHeartbeats 4000000 in
set_option maxRecDepth 10000 in
theorem ch_cl (l : List Hdr) (s1 : l.length * 56 ≤ 140737488355328) : CFun Try.prog 59 [.sl 7 (l.map fun x => AVal.agg (ceH x)) .sh] [] (.sl 7 (l.map fun x => AVal.agg (ceH x)) .sh) [] := by
 refine CFun.intro (tr := []) (fz := []) (n := 8) (rs := [.tmp 2]) Try.func59 rfl (by kernel_rfl) rfl rfl mixed (by kernel_rfl) (by simp) (by simp) ?_
 have s2 : l.length ≤ 140737488355328 := by omega
 cases l with
 | nil => simp
 | cons x xs =>
   simp only [List.length_cons] at s1 s2
   simp [s1, s2]
set_option maxHeartbeats 4000000 in
set_option maxRecDepth 10000 in
theorem ch_clr (l : List Hdr) (hne : l ≠ []) (s1 : l.length * 56 ≤ 140737488355328) : CFun Try.prog 59 [.sl 7 (l.map fun x => AVal.agg (ceH x)) .sh] [] (.osl 0 0 l.length none 7) [rowC ceH l] := by
 refine CFun.intro (tr := [100007]) (fz := []) (n := 8) (rs := [.tmp 2]) Try.func59 rfl (by kernel_rfl) rfl rfl mixed (by kernel_rfl) (by simp) (by simp) ?_
 have s2 : l.length ≤ 140737488355328 := by omega
 have s3 : 0 < l.length := List.length_pos_iff.2 hne
 have s4 : (l.map fun x => AVal.agg (ceH x)).isEmpty = false := by cases l <;> simp_all
 have s5 := rowC_map (ce := ceH) l
 simp [hne, s1, s2, s3, s4]
 rw [s5, (eHh).rowDis]
 exact (eHh).rowLe 1 l
set_option maxHeartbeats 4000000 in
set_option maxRecDepth 10000 in
theorem ch_cl0 : CFun Try.prog 59 [.sl 7 [] .sh] [] (.sl 7 [] .full) [] := by
 refine CFun.intro (tr := [100007]) (fz := []) (n := 8) (rs := [.tmp 2]) Try.func59 rfl (by kernel_rfl) rfl rfl mixed (by kernel_rfl) (by simp) (by simp) ?_
 simp
set_option maxHeartbeats 4000000 in
set_option maxRecDepth 10000 in
theorem ih_ix (l : List Hdr) (n : Nat) (hn : l.length = n) (hlen : n < 8796093022208) (p : Hdr → Bool) (f : FuncId) (fs cs : List AVal) (H : List (List AVal)) (hf : low H.length (.fn f fs cs) = true) (hH : LeBoxes H.length H H)
   (hp : ∀ x ∈ l, CFun Try.prog f (fs ++ [.agg (ceH x)] ++ cs) H (.bool (p x)) H) : CFun Try.prog 80 [.sl 7 (l.map fun x => AVal.agg (ceH x)) .sh, .fn f fs cs] H (.int .i64 (idxL p l 0)) H := by
 refine CFun.intro (tr := []) (fz := []) (n := 19) (rs := [.tmp 4]) Try.func80 rfl (by kernel_rfl) rfl rfl mixed (by kernel_rfl) (by simp) (by simp) ?_
 simp
 refine LoopK.intro (tr := []) mixed (by kernel_rfl) (fun i : Nat => [(0, .sl 7 (l.map fun x => AVal.agg (ceH x)) .sh), (1, .fn f fs cs), (7, .int .i64 n), (8, .int .i64 i)]) (fun _ => H) (fun i => i ≤ n ∧ idxL p l 0 = idxL p (l.drop i) i) (fun i => n - i) 0 ?_ ?_ ?_
 · simp
 · simp [hn, hH]
   simpa [low] using hf
 · rintro i ⟨h1, h2⟩
   by_cases hi : i < n
   · obtain ⟨x, hx, hd⟩ := get_drop (l := l) (i := i) (by omega)
     have hpx := hp x (List.mem_of_getElem? hx)
     rw [hd] at h2
     clear hd hn
     have w1 : IntKind.i64.wrap ((i : Int) + 1) = i + 1 := wrap_in (by omega)
     have hl := (eHh).len x
     have ht := List.all_eq_true.1 ((eHh).tree x)
     have hdis := (eHh).dis x
     have htk : (List.take 7 (ceH x)) = ceH x := List.take_of_length_le (by omega)
     simp [hi, hx, hl, ht, hdis, htk]
     refine ⟨_, _, .inl (by simpa [cargs] using hpx), by simp, ?_⟩
     simp only [idxL] at h2
     by_cases hpb : p x = true
     · simp [hpb, hH, h2]
     · rw [if_neg hpb] at h2
       simp [hpb, w1, hH]
       refine ⟨i + 1, ⟨by omega, h2⟩, by omega, ?_⟩
       simp
       simpa [low] using hf
   · have : i = n := by omega
     subst this
     rw [List.drop_eq_nil_of_le (by omega)] at h2
     simp [h2, idxL, hH]
set_option maxHeartbeats 4000000 in
set_option maxRecDepth 10000 in
theorem ih_ixr (l : List Hdr) (rest : List AVal) (n : Nat) (hn : l.length = n) (hlen : n < 8796093022208) (p : Hdr → Bool) (f : FuncId) (fs cs : List AVal) (H : List (List AVal)) (id : Nat) (cap : Option Nat) (hid : H[id]? = some (rowC ceH l ++ rest))
   (hf : low H.length (.fn f fs cs) = true) (hH : LeBoxes H.length H H)
   (hp : ∀ x ∈ l, CFun Try.prog f (fs ++ [.agg (ceH x)] ++ cs) H (.bool (p x)) H) : CFun Try.prog 80 [.osl id 0 n cap 7, .fn f fs cs] H (.int .i64 (idxL p l 0)) H := by
 have hidl : id < H.length := (List.getElem?_eq_some_iff.1 hid).1
 refine CFun.intro (tr := []) (fz := []) (n := 19) (rs := [.tmp 4]) Try.func80 rfl (by kernel_rfl) rfl rfl mixed (by kernel_rfl) (by simp) (by simp) ?_
 simp
 refine LoopK.intro (tr := []) mixed (by kernel_rfl) (fun i : Nat => [(0, .osl id 0 n cap 7), (1, .fn f fs cs), (7, .int .i64 n), (8, .int .i64 i)]) (fun _ => H) (fun i => i ≤ n ∧ idxL p l 0 = idxL p (l.drop i) i) (fun i => n - i) 0 ?_ ?_ ?_
 · simp
 · simp [hH, hidl]
   simpa [low] using hf
 · rintro i ⟨h1, h2⟩
   by_cases hi : i < n
   · obtain ⟨x, hx, hd⟩ := get_drop (l := l) (i := i) (by omega)
     have hpx := hp x (List.mem_of_getElem? hx)
     have hload := (eHh).load hx rest
     rw [hd] at h2
     clear hd hn
     have w1 : IntKind.i64.wrap ((i : Int) + 1) = i + 1 := wrap_in (by omega)
     simp [hi, hid, hload, -aload]
     refine ⟨_, _, .inl (by simpa [cargs] using hpx), by simp, ?_⟩
     simp only [idxL] at h2
     by_cases hpb : p x = true
     · simp [hpb, hH, h2]
     · rw [if_neg hpb] at h2
       simp [hpb, w1, hH]
       refine ⟨i + 1, ⟨by omega, h2⟩, by omega, ?_⟩
       simp [hidl]
       simpa [low] using hf
   · have : i = n := by omega
     subst this
     rw [List.drop_eq_nil_of_le (by omega)] at h2
     simp [h2, idxL, hH]
set_option maxHeartbeats 4000000 in
set_option maxRecDepth 10000 in
theorem dh_del (l : List Hdr) (n c : Nat) (hn : l.length = n) (hc : n ≤ c) (hlen : n < 8796093022208) (p : Hdr → Bool) (f : FuncId) (fs cs : List AVal) (hfs : fs.all noid0 = true) (hcs : cs.all noid0 = true)
   (hp : ∀ x, CFun Try.prog f (fs ++ [.agg (ceH x)] ++ cs) [] (.bool (p x)) []) : CFun Try.prog 50 [.osl 0 0 n (some c) 7, .fn f fs cs] [rowC ceH l] (.osl 0 0 (l.filter fun x => !p x).length (some c) 7) [delRow ceH 7 p l] := by
 have n01 : ∀ y : AVal, noid0 y = true → noid y = true := by
   intro y hy
   cases y <;> first | rfl | (simp [noid0] at hy)
 have hno : ∀ x : Hdr, (fs ++ [AVal.agg (ceH x)] ++ cs).all noid = true := by
   intro x
   simp only [List.all_append, Bool.and_eq_true]
   exact ⟨⟨List.all_eq_true.2 fun y hy => n01 y (List.all_eq_true.1 hfs y hy), rfl⟩, List.all_eq_true.2 fun y hy => n01 y (List.all_eq_true.1 hcs y hy)⟩
 have hlow : ∀ k, low k (.fn f fs cs) = true := fun k => noid_low (by simp [noid, hfs, hcs])
 have flatB_le := (eHh).rowLe
 refine CFun.intro (tr := []) (fz := []) (n := 42) (rs := [.tmp 4]) Try.func50 rfl (by kernel_rfl) rfl rfl mixed (by kernel_rfl) (by simp) (by simp) ?_
 simp
 have hidx := ih_ixr l [] n hn hlen p f fs cs [rowC ceH l] 0 (some c) (by simp) (hlow _) (by simp [flatB_le]) (fun x _ => (hp x).up' _ (hno x) rfl)
 refine ⟨_, _, .inl hidx, trivial, ?_⟩
 rcases idxL_spec p l 0 with ⟨e1, e2⟩ | ⟨i, e1, e2, e3⟩
 · simp [e1, delRow, e2, hn, flatB_le]
 · have w0 : IntKind.i64.wrap ((i : Int) + 1) = i + 1 := wrap_in (by omega)
   have hne : ¬ ((i : Int) = -1) := by omega
   simp [e1, w0, hne]
   refine LoopK.intro (tr := []) mixed (by kernel_rfl) (fun q : Nat × Nat × List Hdr => [(0, .osl 0 0 n (some c) 7), (1, .fn f fs cs), (5, .int .i64 q.1), (6, .int .i64 q.2.1)]) (fun q => [rowC ceH q.2.2])
     (fun q => q.1 < q.2.1 ∧ q.2.1 ≤ n ∧ q.2.2.length = n ∧ q.2.2.take q.1 = (l.take q.2.1).filter (fun x => !p x) ∧ q.2.2.drop q.2.1 = l.drop q.2.1) (fun q => n - q.2.1) (i, i + 1, l) ?_ ?_ ?_
   · exact ⟨by simp, by simp; omega, hn, e3.symm, rfl⟩
   · simp [flatB_le]
     simpa [low] using hlow 1
   · rintro ⟨a, b, cur⟩ ⟨h1, h2, h3, h4, h5⟩
     simp only at h1 h2 h3 h4 h5
     have hal : a < cur.length := by omega
     by_cases hb : b < n
     · obtain ⟨x, hx, hd⟩ := get_drop (l := l) (i := b) (by omega)
       obtain ⟨y, hy, he⟩ := get_drop (l := cur) (i := b) (by omega)
       rw [hd, he, List.cons.injEq] at h5
       obtain ⟨rfl, h5⟩ := h5
       have hload := (eHh).load0 hy
       have hcall := (hp y).up' [rowC ceH cur, ceH y] (hno y) rfl
       have hset := (eHh).setOne0 cur a y hal
       have w1 : IntKind.i64.wrap ((b : Int) + 1) = b + 1 := wrap_in (by omega)
       have w2 : IntKind.i64.wrap ((a : Int) + 1) = a + 1 := wrap_in (by omega)
       have htk : (l.take (b + 1)).filter (fun x => !p x) = (l.take b).filter (fun x => !p x) ++ [y].filter (fun x => !p x) := by
         rw [List.take_add_one, hx]; simp
       have hlen2 := (eHh).rowLen cur
       have hl := (eHh).len y
       have ht := List.all_eq_true.1 ((eHh).tree y)
       have hdis := (eHh).dis y
       have hyk : (List.take 7 (ceH y)) = ceH y := List.take_of_length_le (by omega)
       have hle := treeCells_le 1 ((eHh).tree y)
       have hs0 : setR zH 0 (ceH y) = ceH y := rfl
       simp only [zH] at hs0
       have hl1 := (eHh).load0 (l := [y]) (i := 0) rfl
       rw [rowC_one, Nat.zero_mul] at hl1
       clear hn hd he
       by_cases hpx : p y = true
       · simp [hb, hload, hl, ht, hdis, hyk, hs0, hl1, -aload, -setR]
         refine ⟨_, _, .inl (by simpa [cargs, hdis, hyk] using hcall), by simp, ?_⟩
         simp [hpx, w1]
         refine ⟨a, b + 1, cur, ⟨by omega, by omega, h3, by rw [htk]; simp [hpx, h4], h5⟩, by omega, ?_⟩
         simp [flatB_le]
         simpa [low] using hlow 1
       · have hfit : a * 7 + 7 ≤ (rowC ceH cur).length := by omega
         simp [hb, hload, hl, ht, hdis, hyk, hs0, hl1, -aload, -setR]
         refine ⟨_, _, .inl (by simpa [cargs, hdis, hyk] using hcall), by simp, ?_⟩
         have han : a < n := by omega
         have hset' : (cur.set a y).take (a + 1) = (l.take (b + 1)).filter (fun x => !p x) := by
           rw [htk, ← h4, List.take_add_one, List.take_set_of_le (by omega)]
           simp [hal, hpx]
         simp [hpx, han, hfit, hset, hl, hl1, hdis, hyk, w1, w2, -setR, -aload]
         refine ⟨a + 1, b + 1, cur.set a y, ⟨by omega, by omega, by simpa using h3, hset', ?_⟩, by omega, ?_⟩
         · rw [List.drop_set_of_lt (by omega)]; exact h5
         · simp [flatB_le]
           simpa [low] using hlow 1
     · have hbn : b = n := by omega
       subst hbn
       have hlb : l.take b = l := List.take_of_length_le (by omega)
       rw [hlb] at h4
       have hl : (l.filter fun x => !p x).length = a := by
         rw [← h4]; simp; omega
       have hrow := (eHh).strike cur a (by omega) ((b - a) * 7) (by rw [h3]) (List.replicate ((b - a) * 7) .undef) (by simp)
       have hfl := (eHh).rowLen cur
       have hab : ¬ b - a = 0 := by omega
       have hfit : a * 7 + (b - a) * 7 ≤ (rowC ceH cur).length := by omega
       have z1 : a ≤ b := by omega
       have z2 : a ≤ c := by omega
       simp [z1, z2, hab, hfit, hrow, -setR]
       exact ⟨hl.symm, by rw [delRow, hl, hn, h4]; exact (eHh).roomLe _ _ _⟩
set_option maxHeartbeats 4000000 in
set_option maxRecDepth 10000 in
theorem dh_del0 (f : FuncId) (fs cs : List AVal) (hfs : fs.all noid0 = true) (hcs : cs.all noid0 = true)
   (p : Hdr → Bool) (hp : ∀ x, CFun Try.prog f (fs ++ [.agg (ceH x)] ++ cs) [] (.bool (p x)) []) : CFun Try.prog 50 [.sl 7 [] .full, .fn f fs cs] [] (.sl 7 [] .full) [] := by
 refine CFun.intro (tr := []) (fz := []) (n := 42) (rs := [.tmp 4]) Try.func50 rfl (by kernel_rfl) rfl rfl mixed (by kernel_rfl) (by simp) (by simp) ?_
 have hlow : low 0 (.fn f fs cs) = true := noid_low (by simp [noid, hfs, hcs])
 have h := ih_ix [] 0 rfl (by omega) p f fs cs [] hlow (by simp) (fun x hx => by cases hx)
 simp
 refine ⟨_, _, .inl (h.wk [.sl 7 [] .full, .fn f fs cs] (by simp) (by simp)), trivial, ?_⟩
 simp [idxL]
end Go.Proofs.Ythonenmafbpbkaa

/- Rows of headers: Insert, BinarySearchFunc, Delete. -/
namespace Go.Proofs.Ythonenmafbpbkaa
open Go Go.Am
theorem nh_ov {k1 : Nat} {xs : List AVal} {mm : Go.Am.Mode} {id off len : Nat} {cap : Option Nat} {k2 : Nat} {H : List (List AVal)} {cs : List AVal} (hid : H[id]? = some cs) (hne : cs ≠ []) : EFun Try.prog 84 [.sl k1 xs mm, .osl id off len cap k2] H (.bool false) :=
 overlaps_no (fn := Try.f84) Try.func84 (by kernel_rfl) (by decide +kernel) (by kernel_rfl) (by kernel_rfl) (t := 36) (k := 7) (by kernel_rfl) (by simp) hid hne
set_option maxHeartbeats 4000000 in
set_option maxRecDepth 10000 in
theorem nh_insN (l : List (Hdr)) (i n M : Nat) (hn : l.length = n) (hlen : (n + 1) * 56 ≤ 140737488355328) (hi : i ≤ n) (h0 : 0 < n) (b : Hdr) : CFun Try.prog 44 [.osl 0 0 n (some n) 7, .int .i64 i, .sl 7 [.agg (ceH b)] .sh] [rowC ceH l ++ List.replicate M .undef]
   (.osl 1 0 (n + 1) none 7) [[], rowC ceH (insL l i b)] := by
 refine CFun.intro (tr := [100025, 100040]) (fz := []) (n := 95) (rs := [.tmp 6]) Try.func44 rfl (by kernel_rfl) rfl rfl mixed (by kernel_rfl) (by simp) (by simp) ?_
 have s1 : (n:Int) + 1 < 140737488355330 := by omega
 have w1 : IntKind.i64.wrap ((n : Int) + 1) = n + 1 := wrap_in (by omega)
 have w2 : IntKind.i64.wrap ((i : Int) + 1) = i + 1 := wrap_in (by omega)
 have w3 : IntKind.i64.wrap ((n : Int) + 1 - i) = n + 1 - i := wrap_in (by omega)
 have hfl := (eHh).rowLen l
 have hil := insL_len (b := b) (l := l) (i := i) (by omega)
 have htr := (eHh).rowTree (insL l i b)
 have hcb : ceH b = rowC ceH [b] := (rowC_one b).symm
 have hbl : (rowC ceH [b]).length = 7 := by rw [(eHh).rowLen]; rfl
 have hsrc : asrc [rowC ceH l ++ List.replicate M AVal.undef] (.osl 0 0 i (some n) 7) = some (7, i, rowC ceH (l.take i)) := by
   unfold asrc
   by_cases h0 : i = 0
   · subst h0; rfl
   · simp only [h0, if_false, List.getElem?_cons_zero, Option.bind_some]
     rw [if_pos (by rw [List.length_append, hfl]; simp; omega), List.drop_zero, List.take_append_of_le_length (by omega), (eHh).rowTake]
 have hsb : ∀ H, asrc H (.sl 7 [.agg (ceH b)] .sh) = some (7, 1, rowC ceH [b]) := fun H => rfl
 have hle := (eHh).rowLe 2 (insL l i b)
 have hds := (eHh).rowDis (insL l i b)
 by_cases h1 : i = n
 · subst h1
   have z1 : (i + 1) * 56 ≤ 140737488355328 := by omega
   have z2 : i ≤ 140737488355327 := by omega
   have e1 : l.take i = l := List.take_of_length_le (by omega)
   have e2 : insL l i b = l ++ [b] := by simp [insL, e1, List.drop_of_length_le (show l.length ≤ i by omega)]
   rw [e1] at hsrc
   rw [e2] at htr hil hle hds ⊢
   simp [hsrc, hsb, -asrc, z1, z2, hds, ← rowC_app, -List.all_eq_true, hle]
 · have h1' : ¬ ((i:Int) = n) := by omega
   have hsrc2 : ∀ X, asrc ((rowC ceH l ++ List.replicate M AVal.undef) :: X) (.osl 0 (i * 7) (n - i) (some (n - i)) 7) = some (7, n - i, rowC ceH (l.drop i)) := by
     intro X
     unfold asrc
     simp only [show ¬ n - i = 0 by omega, if_false, List.getElem?_cons_zero, Option.bind_some]
     rw [if_pos (by rw [List.length_append, hfl]; omega), List.drop_append_of_le_length (by omega), (eHh).rowDrop, List.take_append_of_le_length (by rw [(eHh).rowLen]; simp; omega), List.take_of_length_le (by rw [(eHh).rowLen]; simp; omega)]
   have hp0 : (0 : Int) ≤ (i : Int) + 1 := by omega
   have hp1 : 0 < (n + 1) * 7 := by omega
   have hi1 : i ≤ n + 1 := by omega
   have hnat : ((n : Int) + 1 - i).toNat = n + 1 - i := by omega
   have hti : (rowC ceH (l.take i)).length = i * 7 := by rw [(eHh).rowLen, List.length_take]; congr 1; omega
   have hdr : (rowC ceH (l.drop i)).length = (n - i) * 7 := by rw [(eHh).rowLen, List.length_drop, hn]
   have hbt : (rowC ceH [b]).take 7 = rowC ceH [b] := List.take_of_length_le (by rw [hbl]; exact Nat.le_refl _)
   have hLL : (rowC ceH (insL l i b)).length = (n + 1) * 7 := by rw [(eHh).rowLen, hil, hn]
   have hdr2 : (rowC ceH (l.drop i)).take ((n - i) * 7) = rowC ceH (l.drop i) := List.take_of_length_le (by rw [hdr]; omega)
   have h2' : ((n:Int) < n + 1) := by omega
   have y1 : (i : Int) ≤ n + 1 := by omega
   have y2 : ((n : Int) + 1 - i) * 56 ≤ 281474976710656 := by omega
   have y3 : (n + 1) * 56 ≤ 140737488355328 := by omega
   have y4 : n ≤ 140737488355327 := by omega
   have m1 : ¬ n + 1 - i = 0 := by omega
   have m2 : min 1 (n + 1 - i) = 1 := by omega
   have m3 : min (n - i) (n - i) = n - i := by omega
   have m4 : ¬ n - i = 0 := by omega
   have m5 : n + 1 - (i + 1) = n - i := by omega
   have m6 : (n + 1 - i) * 7 - 7 - (l.length - i) * 7 = 0 := by omega
   have hset1 := (eHh).setFlat (l.take i) i (by simp; omega) (List.replicate ((n + 1 - i) * 7) AVal.undef) [b] (by simp; omega)
   have hset2 := (eHh).setFlat (l.take i ++ [b]) (i + 1) (by simp; omega) (List.replicate ((n + 1 - i) * 7 - 7) AVal.undef) (l.drop i) (by simp; omega)
   have hins : l.take i ++ [b] ++ l.drop i = insL l i b := by simp [insL]
   rw [hins] at hset2
   have hft1 : i * 7 + 7 ≤ i * 7 + (n + 1 - i) * 7 := by omega
   have hft2 : i + 1 ≤ n + 1 := by omega
   have hft3 : (i + 1) * 7 + (n - i) * 7 ≤ i * 7 + (n + 1 - i) * 7 := by omega
   have hft4 : (i + 1) * 7 + (n - i) * 7 ≤ (rowC ceH (l.take i ++ [b])).length + ((n + 1 - i) * 7 - 7) := by rw [(eHh).rowLen]; simp; omega
   simp [hp0, hp1, y1, y2, y3, y4, m1, m2, m3, m4, m5, m6, hbt, hset1, hset2, hft1, hft2, hft3, hti, hft4, htr, hdr, hdr2, hLL, hi, hi1, h1, h1', h2', w1, w2, w3, hsrc, hsrc2, hsb, -asrc, -setR, hds, (eHh).rowDis, (eHh).rowScalar, -List.all_eq_true, hnat, hle]
set_option maxHeartbeats 4000000 in
set_option maxRecDepth 10000 in
theorem nh_insC (l : List (Hdr)) (i n C M : Nat) (hn : l.length = n) (hlen : (n + 1) * 56 ≤ 140737488355328) (hC : n + 1 ≤ C) (hM : (C - n) * 7 ≤ M) (hi : i ≤ n) (b : Hdr) : CFun Try.prog 44 [.osl 1 0 n (some C) 7, .int .i64 i, .sl 7 [.agg (ceH b)] .sh] [[], rowC ceH l ++ List.replicate M .undef]
   (.osl 1 0 (n + 1) (some C) 7) [[], rowC ceH (insL l i b)] := by
 refine CFun.intro (tr := [100025, 100040]) (fz := []) (n := 95) (rs := [.tmp 6]) Try.func44 rfl (by kernel_rfl) rfl rfl mixed (by kernel_rfl) (by simp) (by simp) ?_
 have w1 : IntKind.i64.wrap ((n : Int) + 1) = n + 1 := wrap_in (by omega)
 have w2 : IntKind.i64.wrap ((i : Int) + 1) = i + 1 := wrap_in (by omega)
 have hfl := (eHh).rowLen l
 have hil := insL_len (b := b) (l := l) (i := i) (by omega)
 have hcb : ceH b = rowC ceH [b] := (rowC_one b).symm
 have hbl : (rowC ceH [b]).length = 7 := by rw [(eHh).rowLen]; rfl
 have hsb : ∀ H, asrc H (.sl 7 [.agg (ceH b)] .sh) = some (7, 1, rowC ceH [b]) := fun H => rfl
 have hle : ∀ rest, LeCells 2 (rowC ceH (insL l i b) ++ rest) (rowC ceH (insL l i b)) := fun rest => by
   have h1 := (eHh).rowLe 2 (insL l i b)
   have h2 := LeCells_app h1 rfl (show LeCells 2 rest [] by simp)
   rwa [List.append_nil] at h2
 have hsrc : asrc [[], rowC ceH l ++ List.replicate M AVal.undef] (.osl 1 0 i (some C) 7) = some (7, i, rowC ceH (l.take i)) := by
   unfold asrc
   by_cases h0 : i = 0
   · subst h0; rfl
   · simp only [h0, if_false, List.getElem?_cons_zero, List.getElem?_cons_succ, Option.bind_some]
     rw [if_pos (by rw [List.length_append, hfl]; simp; omega), List.drop_zero, List.take_append_of_le_length (by omega), (eHh).rowTake]
 by_cases h1 : i = n
 · subst h1
   have z1 : (i + 1) * 56 ≤ 140737488355328 := by omega
   have z2 : i ≤ 140737488355327 := by omega
   have z3 : ¬ C < i + 1 := by omega
   have e1 : l.take i = l := List.take_of_length_le (by omega)
   have e2 : insL l i b = l ++ [b] := by simp [insL, e1, List.drop_of_length_le (show l.length ≤ i by omega)]
   rw [e1] at hsrc
   rw [e2] at hil hle ⊢
   have hset := (eHh).setFlat l i hn.symm (List.replicate M AVal.undef) [b] (by simp; omega)
   have hfit : i * 7 + 7 ≤ (rowC ceH l).length + M := by omega
   have hfit2 : (i + 1) * 7 ≤ (rowC ceH l).length + M := by omega
   simp [hsrc, hsb, -asrc, z1, z2, z3, hset, hfit, hfit2, -setR, (eHh).rowDis, (eHh).rowScalar, -List.all_eq_true, hle]
 · have h1' : ¬ ((i:Int) = n) := by omega
   have h2' : ¬ ((C:Int) < n + 1) := by omega
   have y1 : (n : Int) + 1 ≤ C := by omega
   have y2 : n + 1 ≤ C := by omega
   have y3 : (0 : Int) ≤ (n : Int) + 1 := by omega
   have y4 : i + 1 ≤ n + 1 := by omega
   have m5 : n + 1 - (i + 1) = n - i := by omega
   have m4 : ¬ n - i = 0 := by omega
   have m6 : min (n + 1 - i) (n - i) = n - i := by omega
   have m7 : min 1 (n + 1 - i) = 1 := by omega
   have hiC : i ≤ C := by omega
   have hp0 : (0 : Int) ≤ (i : Int) + 1 := by omega
   have hi1 : i ≤ n + 1 := by omega
   have hti : (rowC ceH (l.take i)).length = i * 7 := by rw [(eHh).rowLen, List.length_take]; congr 1; omega
   have hdr : (rowC ceH (l.drop i)).length = (n - i) * 7 := by rw [(eHh).rowLen, List.length_drop, hn]
   have hbt : (rowC ceH [b]).take 7 = rowC ceH [b] := List.take_of_length_le (by rw [hbl]; exact Nat.le_refl _)
   obtain ⟨x, hx, hd⟩ := get_drop (l := l) (i := i) (by omega)
   have hl1 : l = l.take (i + 1) ++ l.drop (i + 1) := (List.take_append_drop _ _).symm
   have hsrc3 : asrc [[], rowC ceH l ++ List.replicate M AVal.undef] (.osl 1 (i * 7) (n + 1 - i) (some (C - i)) 7) = some (7, n + 1 - i, rowC ceH (l.drop i) ++ List.replicate 7 .undef) := by
     unfold asrc
     simp only [show ¬ n + 1 - i = 0 by omega, if_false, List.getElem?_cons_zero, List.getElem?_cons_succ, Option.bind_some]
     rw [if_pos (by rw [List.length_append, hfl]; simp; omega), List.drop_append_of_le_length (by omega), (eHh).rowDrop]
     have e : (n + 1 - i) * 7 = (rowC ceH (l.drop i)).length + 7 := by rw [hdr]; omega
     rw [e, List.take_length_add_append, List.take_replicate, show min 7 M = 7 by omega]
   have htk : (rowC ceH (l.drop i) ++ List.replicate 7 AVal.undef).take ((n - i) * 7) = rowC ceH (l.drop i) := by
     rw [← hdr, List.take_left']; rfl
   have hset1 : setR (rowC ceH l ++ List.replicate M AVal.undef) ((i + 1) * 7) (rowC ceH (l.drop i)) = rowC ceH (l.take (i + 1) ++ l.drop i) ++ List.replicate (M - 7) .undef := by
     have := (eHh).setFlat (l.take (i + 1)) (i + 1) (by simp; omega) (rowC ceH (l.drop (i + 1)) ++ List.replicate M AVal.undef) (l.drop i) (by simp [(eHh).rowLen]; omega)
     rw [← List.append_assoc, ← rowC_app, ← hl1] at this
     rw [this]
     congr 1
     have e : (l.drop i).length * 7 = (rowC ceH (l.drop (i + 1))).length + 7 := by rw [(eHh).rowLen]; simp; omega
     rw [e, ← List.drop_drop, List.drop_left]
     simp
   have hset2 : setR (rowC ceH (l.take (i + 1) ++ l.drop i) ++ List.replicate (M - 7) .undef) (i * 7) (rowC ceH [b]) = rowC ceH (insL l i b) ++ List.replicate (M - 7) .undef := by
     rw [rowC_one]
     have := (eHh).setOne (l.take (i + 1) ++ l.drop i) i b (by simp; omega) (List.replicate (M - 7) AVal.undef)
     rw [this]
     congr 2
     rw [insL, List.take_add_one, hx]
     simp [List.set_append, hn, hi, show min i n = i by omega]
   have hf1 : (i + 1) * 7 + (n - i) * 7 ≤ n * 7 + M := by omega
   have hf2 : i * 7 + 7 ≤ (rowC ceH (l.take (i + 1) ++ l.drop i)).length + (M - 7) := by rw [(eHh).rowLen]; simp; omega
   have hne0 : rowC ceH l ++ List.replicate M AVal.undef ≠ [] := by intro e; have := congrArg List.length e; rw [List.length_append, hfl] at this; simp at this; omega
   have h45 := nh_ov (k1 := 7) (xs := [.agg (ceH b)]) (mm := .sh) (id := 1) (off := (i + 1) * 7) (len := n - i) (cap := some (C - (i + 1))) (k2 := 7) (H := [[], rowC ceH l ++ List.replicate M AVal.undef]) rfl hne0
   rw [hn] at hfl
   simp [hp0, y1, y2, y3, y4, m4, m5, m6, m7, hfl, hi, hiC, hi1, h1, h1', h2', w1, w2, hsb, -asrc, -setR, (eHh).rowDis, (eHh).rowScalar, -List.all_eq_true]
   refine ⟨_, _, .inr ⟨rfl, h45⟩, trivial, ?_⟩
   simp [hp0, y1, y2, y3, y4, m4, m5, m6, m7, hfl, hf1, hf2, hset1, hset2, htk, hbt, hi, hiC, hi1, h1, h1', h2', w1, w2, hsb, hsrc3, hdr, -asrc, -setR, (eHh).rowDis, (eHh).rowScalar, -List.all_eq_true, hle]
theorem nh_insR (l : List (Hdr)) (i n : Nat) (hn : l.length = n) (hlen : (n + 1) * 56 ≤ 140737488355328) (hi : i ≤ n) (h0 : 0 < n) (b : Hdr) : CFun Try.prog 44 [.osl 0 0 n none 7, .int .i64 i, .sl 7 [.agg (ceH b)] .sh] [rowC ceH l]
   (.osl 1 0 (n + 1) none 7) [[], rowC ceH (insL l i b)] := by
 have hfl := (eHh).rowLen l
 rw [hn] at hfl
 have hne : rowC ceH l ≠ [] := by
   intro e
   rw [e] at hfl
   simp at hfl
   omega
 refine CFun.reveal (id := 0) (off := 0) (len := n) (k := 7) (cs := rowC ceH l) 0 rfl rfl hne (fun C hC => ?_) (fun C hC h0 => by omega)
 rw [hfl]
 show CFun Try.prog 44 [.osl 0 0 n (some C) 7, .int .i64 i, .sl 7 [.agg (ceH b)] .sh] [rowC ceH l ++ List.replicate (0 + C * 7 - n * 7) .undef] _ _
 by_cases hc : C = n
 · subst hc
   exact nh_insN l i C _ hn hlen hi h0 b
 · have h := nh_insC l i n C (0 + C * 7 - n * 7) hn hlen (by omega) (by rw [Nat.sub_mul]; omega) hi b
   refine CFun.forget (c := some C) (CFun.adopt (p := 0) (cs := rowC ceH l ++ List.replicate (0 + C * 7 - n * 7) .undef) rfl rfl ?_)
   exact h
end Go.Proofs.Ythonenmafbpbkaa

/- Rows of headers: BinarySearchFunc. -/
namespace Go.Proofs.Ythonenmafbpbkaa
open Go Go.Am
set_option maxHeartbeats 1000000 in
set_option maxRecDepth 10000 in
theorem s43 (a b : Hdr) : CFun Try.prog 43 [encH a, encH b] [] (.int .i64 (cmpY (keyH a) (keyH b))) [] := by
 refine CFun.intro (tr := []) (fz := []) (n := 10) (rs := [.tmp 4]) Try.func43 rfl (by kernel_rfl) rfl rfl mixed (by kernel_rfl) (by simp) (by simp) ?_
 have h1 := fun H => (c25 a).up' H rfl rfl
 have h2 := fun H => (c25 b).up' H rfl rfl
 have h3 := fun H => (c27 (keyH a) (keyH b)).up' H rfl rfl
 simp
 refine ⟨_, _, .inl (by simpa using h1 _), by simp, ?_⟩
 simp
 refine ⟨_, _, .inl (by simpa using h2 _), by simp, ?_⟩
 simp
 refine ⟨_, _, .inl (by simpa using h3 _), by simp, ?_⟩
 simp
theorem posH_lt {k : LKey} : ∀ {l : List Hdr}, ascH l → ∀ {a : Nat} {x : Hdr}, l[a]? = some x → (ltY (keyH x) k ↔ a < posH l k) := by
 intro l
 induction l with
 | nil => intro _ a x h; simp at h
 | cons y ys ih =>
   intro h a x hx
   simp only [ascH, List.pairwise_cons] at h
   unfold posH
   rw [posF_cons]
   by_cases h1 : ltY (keyH y) k
   · simp only [h1, decide_true, Bool.not_true, Bool.false_eq_true, if_false]
     cases a with
     | zero => simp at hx; subst hx; simp [h1]
     | succ a =>
       have := ih h.2 (a := a) (x := x) (by simpa using hx)
       unfold posH at this
       rw [this]; omega
   · simp only [h1, decide_false, Bool.not_false, if_true]
     cases a with
     | zero => simp at hx; subst hx; simp [h1]
     | succ a =>
       have hm : x ∈ ys := List.mem_of_getElem? (by simpa using hx)
       simp only [Nat.not_lt_zero, iff_false]
       exact fun q => h1 (ltY_trans (h.1 x hm) q)
theorem posH_le (l : List Hdr) (k : LKey) : posH l k ≤ l.length := posF_le _ _
set_option maxHeartbeats 4000000 in
set_option maxRecDepth 10000 in
theorem s42 (l : List Hdr) (n : Nat) (hn : l.length = n) (hlen : n < 8796093022208) (hs : ascH l) (g : Hdr) : CFun Try.prog 42 [.sl 7 (l.map encH) .sh, encH g, .fn 43 [] []] [] (.tup [.int .i64 (posH l (keyH g)), .bool (fndH l (keyH g))]) [] := by
 refine CFun.intro (tr := []) (fz := []) (n := 49) (rs := [.tmp 6, .tmp 7]) Try.func42 rfl (by kernel_rfl) rfl rfl mixed (by kernel_rfl) (by simp) (by simp) ?_
 obtain ⟨k, hk⟩ : ∃ k, keyH g = k := ⟨_, rfl⟩
 rw [hk]
 have hpl := posH_le l k
 have hpf : ∀ a x, l[a]? = some x → (cmpY (keyH x) k < 0 ↔ a < posH l k) := fun a x h => posH_lt hs h
 have hfd : fndH l k = (match l[posH l k]? with | some x => decide (cmpY (keyH x) k = 0) | none => false) := by
   unfold fndH
   cases l[posH l k]? with
   | none => rfl
   | some x => simp only [cmpY_zero]
 rw [hfd]
 generalize posH l k = p at hpl hpf ⊢
 simp [hn]
 refine LoopK.intro (tr := []) mixed (by kernel_rfl) (fun q : Nat × Nat => [(0, .sl 7 (l.map encH) .sh), (2, .fn 43 [] []), (4, .ptr 0 0), (8, .int .i64 n), (9, .int .i64 q.1), (10, .int .i64 q.2)]) (fun _ => [cellsH g]) (fun q => q.1 ≤ p ∧ p ≤ q.2 ∧ q.2 ≤ n) (fun q => q.2 - q.1) (0, n) ?_ ?_ ?_
 · exact ⟨by simp, by simpa [hn] using hpl, by simp⟩
 · simp
 · rintro ⟨i, j⟩ ⟨h1, h2, h3⟩
   simp only at h1 h2 h3
   by_cases hi : i < j
   · obtain ⟨h, hh⟩ : ∃ h, (i + j) / 2 = h := ⟨_, rfl⟩
     obtain ⟨x, hx, _⟩ := get_drop (l := l) (i := h) (by omega)
     have h83 := fun H => (s43 x g).up' H rfl rfl
     rw [hk] at h83
     have hp := hpf h x hx
     have w1 : IntKind.i64.wrap ((i : Int) + j) = i + j := wrap_in (by omega)
     have w2 : IntKind.u64.wrap ((i : Int) + j) = i + j := by rw [wrap_u64]; omega
     have w3 : ((i : Int) + j).fdiv (2 ^ min 1 IntKind.u64.bits) = h := by
       rw [show (2 : Int) ^ min 1 IntKind.u64.bits = 2 from rfl, Int.fdiv_eq_ediv_of_nonneg _ (by omega)]
       omega
     have w4 : IntKind.u64.wrap (h : Int) = h := by rw [wrap_u64]; omega
     have w5 : IntKind.i64.wrap (h : Int) = h := wrap_in (by omega)
     have w6 : IntKind.i64.wrap ((h : Int) + 1) = h + 1 := wrap_in (by omega)
     have hhn : h < n := by omega
     clear hfd hpf
     simp [hi, w1, w2, w3, w4, w5, hx, gE hx, hn, hhn]
     refine ⟨_, _, .inl (by simpa using h83 _), by simp, ?_⟩
     by_cases hb : cmpY (keyH x) k < 0
     · simp [hb, w5, w6]
       exact ⟨h + 1, j, ⟨hp.1 hb, h2, h3⟩, by omega, by simp⟩
     · have hb2 := fun q => hb (hp.2 q)
       simp [hb, w5, w6]
       exact ⟨i, h, ⟨h1, by omega, by omega⟩, by omega, by simp⟩
   · have e1 : i = p := by omega
     subst e1
     by_cases hin : i < n
     · obtain ⟨x, hx, _⟩ := get_drop (l := l) (i := i) (by omega)
       have h83 := fun H => (s43 x g).up' H rfl rfl
       rw [hk] at h83
       clear hfd hpf
       simp [hi, hin, hx, gE hx, hn]
       refine ⟨_, _, .inl (by simpa using h83 _), by simp, ?_⟩
       by_cases hz : cmpY (keyH x) k = 0 <;> simp [hz]
     · have e2 : l[i]? = none := List.getElem?_eq_none (by omega)
       clear hfd hpf
       simp [hi, hin, e2]
end Go.Proofs.Ythonenmafbpbkaa

/- Rows of headers: Delete. -/
namespace Go.Proofs.Ythonenmafbpbkaa
open Go Go.Am
def rowU (l : List Hdr) : List AVal := if l = [] then [.undef] else rowC ceH l
theorem rowU_le2 {n : Nat} {l : List Hdr} (rest : List AVal) (h : 0 < rest.length) : LeCells n (rowC ceH l ++ rest) (rowU l) := by
 unfold rowU
 split
 · rename_i e
   subst e
   cases rest with
   | nil => simp at h
   | cons x rest => exact ⟨LeV_undef _, rfl, by simp [LeCells]⟩
 · exact LeCells_more _ (eHh.rowLe _ _)
theorem rowU_noid (l : List Hdr) : (rowU l).all noid0 = true := by
 unfold rowU
 split
 · rfl
 · exact eHh.rowNoid l
theorem rowU_of {l : List Hdr} (h : l ≠ []) : rowU l = rowC ceH l := if_neg h
set_option maxHeartbeats 4000000 in
set_option maxRecDepth 10000 in
theorem s82C (l : List Hdr) (i n C M : Nat) (hn : l.length = n) (hn2 : n * 56 ≤ 140737488351232) (hC : n ≤ C) (hM : M = (C - n) * 7) (hi : i < n) :
   CFun Try.prog 82 [.osl 0 0 n (some C) 7, .int .i64 i, .int .i64 (i + 1)] [rowC ceH l ++ List.replicate M .undef] (.osl 0 0 (n - 1) (some C) 7) [rowU (l.eraseIdx i)] := by
 refine CFun.intro (tr := [100026]) (fz := []) (n := 33) (rs := [.tmp 6]) Try.func82 rfl (by kernel_rfl) rfl rfl mixed (by kernel_rfl) (by simp) (by simp) ?_
 have hfl := eHh.rowLen l
 have e1 : ¬ (i : Int) = i + 1 := by omega
 have e2 : ((i : Int) + 1).toNat = i + 1 := by omega
 have e3 : (0 : Int) ≤ i + 1 := by omega
 have e4 : (i : Int) + 1 ≤ n := by omega
 have e5 : i + 1 ≤ n := by omega
 have e6 : i ≤ n := by omega
 have e7 : n ≤ C := hC
 have e8 : i + 1 ≤ C := by omega
 have e9 : i ≤ C := by omega
 have hsrc1 : asrc [rowC ceH l ++ List.replicate M AVal.undef] (.osl 0 0 i (some C) 7) = some (7, i, rowC ceH (l.take i)) := by
   unfold asrc
   by_cases h0 : i = 0
   · subst h0; rfl
   · simp only [h0, if_false, List.getElem?_cons_zero, Option.bind_some]
     rw [if_pos (by rw [List.length_append, hfl]; omega), List.drop_zero, List.take_append_of_le_length (by omega), eHh.rowTake]
 have hsrc2 : asrc [rowC ceH l ++ List.replicate M AVal.undef] (.osl 0 ((i + 1) * 7) (n - (i + 1)) (some (C - (i + 1))) 7) = some (7, n - (i + 1), rowC ceH (l.drop (i + 1))) := by
   unfold asrc
   by_cases h0 : n - (i + 1) = 0
   · simp only [h0, if_true]
     rw [List.drop_eq_nil_of_le (show l.length ≤ i + 1 by omega)]; rfl
   · simp only [h0, if_false, List.getElem?_cons_zero, Option.bind_some]
     rw [if_pos (by rw [List.length_append, hfl]; omega), List.drop_append_of_le_length (by omega), eHh.rowDrop, List.take_append_of_le_length (by rw [eHh.rowLen]; simp; omega), List.take_of_length_le (by rw [eHh.rowLen]; simp; omega)]
 have hset := eHh.setFlat (l.take i) i (by simp; omega) (rowC ceH (l.drop i) ++ List.replicate M AVal.undef) (l.drop (i + 1)) (by simp [eHh.rowLen]; omega)
 rw [← List.append_assoc, ← rowC_app, List.take_append_drop, ← List.eraseIdx_eq_take_drop_succ] at hset
 have hle : (l.eraseIdx i).length = n - 1 := by rw [List.length_eraseIdx_of_lt (by omega), hn]
 obtain ⟨rest, hrest⟩ : ∃ rest, rest = (rowC ceH (l.drop i) ++ List.replicate M AVal.undef).drop ((l.drop (i + 1)).length * 7) := ⟨_, rfl⟩
 have hrl : rest.length = 7 + M := by rw [hrest]; simp [eHh.rowLen]; omega
 rw [← hrest] at hset
 generalize l.eraseIdx i = z at *
 have hzl := eHh.rowLen z
 have f1 : i + (n - (i + 1)) = n - 1 := by omega
 have f2 : n - 1 ≤ 140737488355328 := by omega
 have f3 : (n - 1) * 56 ≤ 140737488355328 := by omega
 have f4 : ¬ C < n - 1 := by omega
 have f5 : (n - 1) * 7 ≤ (rowC ceH l).length + M := by omega
 have f6 : n - 1 ≤ C := by omega
 have f7 : n - 1 ≤ n := by omega
 have g2 : n - (n - 1) = 1 := by omega
 have g3 : (n - 1) * 7 + 7 ≤ (rowC ceH z ++ rest).length := by rw [List.length_append, hzl, hrl]; omega
 have g4 : (n - 1) * 7 + 7 ≤ (rowC ceH z).length + rest.length := by rw [hzl, hrl]; omega
 have g5 : n ≤ (n - 1) + 1 := by omega
 have g6 : i * 7 + (n - (i + 1)) * 7 ≤ (rowC ceH l).length + M := by omega
 obtain ⟨u7, hu7⟩ : ∃ u : List AVal, u = [AVal.undef, .undef, .undef, .undef, .undef, .undef, .undef] := ⟨_, rfl⟩
 obtain ⟨rest2, hrest2⟩ : ∃ rest2, rest2 = u7 ++ rest.drop 7 := ⟨_, rfl⟩
 have hzl' : (rowC ceH z).length = (n - 1) * 7 := by rw [hzl, hle]
 have hclr : setR (rowC ceH z ++ rest) ((n - 1) * 7) u7 = rowC ceH z ++ rest2 := by
   rw [setR_mid _ _ _ (by rw [hu7, hrl]; simp) _ hzl'.symm, hrest2, hu7]; rfl
 rw [hu7] at hclr
 have htk : (rowC ceH z ++ rest2).take ((n - 1) * 7) = rowC ceH z := by rw [← hzl', List.take_left']; rfl
 have htr := eHh.rowTree z
 have hch := eHh.chunk z (n - 1) hle
 have hr2 : rest2.length = 7 + M := by rw [hrest2, hu7]; simp [hrl]; omega
 have hr3 : 0 < (rowC ceH z).length + rest2.length := by omega
 have hcz := eHh.chunk z (n - 1) hle
 by_cases hz : n - (i + 1) = 0
 · have h8 : n - i = 1 := by omega
   rw [hz] at hsrc2
   rw [show l.drop (i + 1) = [] from List.drop_eq_nil_of_le (by omega)] at hset hsrc2
   have g0 : rowC ceH ([] : List Hdr) = [] := rfl
   have hset : rowC ceH l ++ List.replicate M AVal.undef = rowC ceH z ++ rest := hset
   rw [hset] at hsrc1 hsrc2 ⊢
   rw [show n - 1 = i by omega] at *
   have g1 : i * 7 + 7 ≤ (rowC ceH z).length + rest.length := by omega
   simp [e1, e2, e3, e4, e5, e6, e7, e8, e9, hn, hsrc1, hsrc2, -asrc, f2, f3, f4, f5, f6, f7, g0, g1, hz, h8, -setR, eHh.rowDis, eHh.rowScalar, -List.all_eq_true, hclr, htk, htr, hch, hr3, hcz]
   exact rowU_le2 _ (by omega)
 · simp [e1, e2, e3, e4, e5, e6, e7, e8, e9, hn, hsrc1, hsrc2, -asrc, f1, f2, f3, f4, f5, f6, f7, g2, g3, g4, hz, hset, -setR, eHh.rowDis, eHh.rowScalar, -List.all_eq_true, hclr, htk, htr, hch, hr3, hcz]
   exact rowU_le2 _ (by omega)
theorem s82 (l : List Hdr) (i n : Nat) (hn : l.length = n) (hn2 : n * 56 ≤ 140737488351232) (hi : i < n) :
   CFun Try.prog 82 [.osl 0 0 n none 7, .int .i64 i, .int .i64 (i + 1)] [rowC ceH l] (.osl 0 0 (n - 1) none 7) [rowU (l.eraseIdx i)] := by
 have hfl := eHh.rowLen l
 rw [hn] at hfl
 have hne : rowC ceH l ≠ [] := by
   intro e
   rw [e] at hfl
   simp at hfl
   omega
 refine CFun.reveal (id := 0) (off := 0) (len := n) (k := 7) (cs := rowC ceH l) 0 rfl rfl hne (fun C hC => ?_) (fun C hC h0 => by omega)
 rw [hfl]
 exact CFun.forget (s82C l i n C _ hn hn2 hC (by rw [Nat.sub_mul]; omega) hi)
end Go.Proofs.Ythonenmafbpbkaa
