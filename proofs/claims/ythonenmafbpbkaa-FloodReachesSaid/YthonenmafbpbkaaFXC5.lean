/- Rows of headers that may be empty, among variables that are known by their numbers alone. -/
import Derived.Test.YthonenmafbpbkaaFS3
import Derived.Test.YthonenmafbpbkaaFA2
import Derived.Test.YthonenmafbpbkaaFXS3
set_option linter.unusedSimpArgs false
set_option linter.unusedVariables false
namespace Go.Proofs.Ythonenmafbpbkaa
open Go Go.Am
theorem row_ne {l : List Hdr} (h : l ≠ []) : rowC ceH l ≠ [] := by
 intro e
 have := eHh.rowLen l
 rw [e] at this
 have h1 := List.length_pos_iff.2 h
 simp only [List.length_nil] at this
 omega
set_option maxHeartbeats 2000000 in
set_option maxRecDepth 10000 in
theorem dh_e (f : FuncId) (fs cs : List AVal) (hfs : fs.all noid0 = true) (hcs : cs.all noid0 = true) : CFun Try.prog 50 [.osl 0 0 0 none 7, .fn f fs cs] [[.undef]] (.osl 0 0 0 none 7) [[.undef]] := by
 refine CFun.intro (tr := []) (fz := []) (n := 42) (rs := [.tmp 4]) Try.func50 rfl (by kernel_rfl) rfl rfl mixed (by kernel_rfl) (by simp) (by simp) ?_
 have h := ih_ixr [] [.undef] 0 rfl (by omega) (fun _ => false) f fs cs [[.undef]] 0 none rfl (by simp [low, noid0_alllow hfs, noid0_alllow hcs, -List.all_eq_true]) (by simp) (fun x hx => by cases hx)
 have h1 : idxL (fun _ => false) ([] : List Hdr) 0 = -1 := rfl
 rw [h1] at h
 simp
 refine ⟨_, _, .inl h, by simp, ?_⟩
 simp
theorem delRow_leU {n : Nat} {l : List Hdr} {p : Hdr → Bool} (h : l ≠ []) : LeCells n (delRow ceH 7 p l) (rowU (l.filter fun x => !p x)) := by
 unfold delRow
 by_cases e : (l.filter fun x => !p x) = []
 · rw [e]
   refine rowU_le2 _ ?_
   have := List.length_pos_iff.2 h
   simp
   omega
 · rw [rowU_of e]
   exact LeCells_more _ (eHh.rowLe _ _)
theorem dh_H (l : List Hdr) (hlen : l.length < 8796093022208) (p : Hdr → Bool) (f : FuncId) (fs cs : List AVal) (hfs : fs.all noid0 = true) (hcs : cs.all noid0 = true)
   (hp : ∀ x, CFun Try.prog f (fs ++ [.agg (ceH x)] ++ cs) [] (.bool (p x)) []) {H : List (List AVal)} {u : Nat} (hu : H[u]? = some (rowU l)) :
   CFun Try.prog 50 [.osl u 0 l.length none 7, .fn f fs cs] H (.osl u 0 (l.filter fun x => !p x).length none 7) (H.set u (rowU (l.filter fun x => !p x))) := by
 have hn : ∀ (ys : List AVal), ys.all noid0 = true → ys.map (ren0 fun _ => u) = ys := fun ys h => noid0_map h
 by_cases h0 : l = []
 · subst h0
   have := (dh_e f fs cs hfs hcs).at (H := H) (id := u) hu rfl rfl (by simp [low, low0, noid0_alllow hfs, noid0_alllow hcs, -List.all_eq_true]) rfl
   simpa [ren, ren0, hn _ hfs, hn _ hcs, rowU] using this
 · have h1 := (dh_delN l _ rfl (List.length_pos_iff.2 h0) hlen p f fs cs hfs hcs hp).postW (H'' := [rowU (l.filter fun x => !p x)]) rfl (LeW.of_le ⟨delRow_leU h0, trivial⟩)
   have := h1.at (H := H) (id := u) (by rw [hu, rowU_of h0]) (eHh.rowNoid l) (rowU_noid _) (by simp [low, low0, noid0_alllow hfs, noid0_alllow hcs, -List.all_eq_true]) rfl
   simpa [ren, ren0, hn _ hfs, hn _ hcs] using this
end Go.Proofs.Ythonenmafbpbkaa

/- Rows of headers that may be empty: IndexFunc, BinarySearchFunc, Delete, Insert. -/
namespace Go.Proofs.Ythonenmafbpbkaa
open Go Go.Am
theorem ih_H (l : List Hdr) (hlen : l.length < 8796093022208) (p : Hdr → Bool) (f : FuncId) (fs cs : List AVal) (hfs : fs.all noid0 = true) (hcs : cs.all noid0 = true)
   (hp : ∀ x, CFun Try.prog f (fs ++ [.agg (ceH x)] ++ cs) [] (.bool (p x)) []) {H : List (List AVal)} {u : Nat} (hu : H[u]? = some (rowU l)) :
   CFun Try.prog 80 [.osl u 0 l.length none 7, .fn f fs cs] H (.int .i64 (idxL p l 0)) H := by
 have hn : ∀ (ys : List AVal), ys.all noid0 = true → ys.map (ren0 fun _ => u) = ys := fun ys h => noid0_map h
 have n01 : ∀ y : AVal, noid0 y = true → noid y = true := by
   intro y hy
   cases y <;> first | rfl | (simp [noid0] at hy)
 have hnf : ∀ x, (fs ++ [AVal.agg (ceH x)] ++ cs).all noid = true := fun x => by
   rw [List.all_eq_true]
   intro y hy
   rcases List.mem_append.1 hy with hy | hy
   · rcases List.mem_append.1 hy with hy | hy
     · exact n01 y (List.all_eq_true.1 hfs y hy)
     · simp at hy; subst hy; rfl
   · exact n01 y (List.all_eq_true.1 hcs y hy)
 obtain ⟨rest, hrest⟩ : ∃ rest, rowU l = rowC ceH l ++ rest := by
   unfold rowU
   split
   · rename_i e; exact ⟨[.undef], by rw [e]; rfl⟩
   · exact ⟨[], by simp⟩
 have hself : LeCells 1 (rowU l) (rowU l) := by
   unfold rowU
   split
   · exact ⟨LeV_undef _, rfl, trivial⟩
   · exact eHh.rowLe _ l
 have h := ih_ixr l rest l.length rfl hlen p f fs cs [rowU l] 0 none (by simp [hrest]) (by simp [low, noid0_alllow hfs, noid0_alllow hcs, -List.all_eq_true]) ⟨hself, trivial⟩ (fun x _ => (hp x).up' _ (hnf x) rfl)
 have := h.at (H := H) (id := u) hu (rowU_noid l) (rowU_noid l) (by simp [low, low0, noid0_alllow hfs, noid0_alllow hcs, -List.all_eq_true]) rfl
 rw [set_same hu] at this
 simpa [ren, ren0, hn _ hfs, hn _ hcs] using this
theorem argW {P : Program} {f : FuncId} {args : List AVal} {H : List (List AVal)} {x : AVal} {H' : List (List AVal)} (h : CFun P f args H x H') (args' : List AVal) (hl : args'.length = args.length)
   (ha : ∀ (i : Nat) (y' y : AVal), args'[i]? = some y' → args[i]? = some y → ∀ r F v, Rep H.length r F y' v → Rep H.length r F y v) : CFun P f args' H x H' := by
 refine ⟨h.1, fun G w cargs h1 h2 h3 h4 h5 => h.2 G w cargs h1 h2 h3 (by omega) fun i y v hy hv => ?_⟩
 have hi : i < args'.length := by
   have := (List.getElem?_eq_some_iff.1 hy).1
   omega
 exact ha i _ y (List.getElem?_eq_getElem hi) hy _ _ v (h5 i _ v (List.getElem?_eq_getElem hi) hv)
theorem bs_H (l : List Hdr) (hlen : l.length < 8796093022208) (hs : ascH l) (g : Hdr) {H : List (List AVal)} {u : Nat} (hu : H[u]? = some (rowU l)) :
   CFun Try.prog 42 [.osl u 0 l.length none 7, encH g, .fn 43 [] []] H (.tup [.int .i64 (posH l (keyH g)), .bool (fndH l (keyH g))]) H := by
 have h := s42 l _ rfl hlen hs g
 by_cases h0 : l = []
 · subst h0
   have h1 := h.up' H rfl rfl
   refine argW h1 _ rfl ?_
   rintro i y' y e1 e2 r F v hv
   rcases i with _ | _ | _ | i
   · simp at e1 e2; subst e1 e2; exact osl0_sl hv
   · simp at e1 e2; subst e1 e2; exact hv
   · simp at e1 e2; subst e1 e2; exact hv
   · simp at e1
 · refine CFun.lend (id := u) (cs := rowC ceH l) (ag := true) ?_ (by rw [hu, rowU_of h0]) (row_ne h0) (fun _ _ h => h) (Nat.le_refl _) (eHh.rowTree l) ?_ rfl
   · have e : frzV u (rowC ceH l) true false (.osl u 0 l.length none 7) = .sl 7 (l.map encH) .sh := by
       simp only [frzV, frz1]
       rw [if_pos ⟨trivial, by rw [eHh.rowLen]; omega, by omega, .inl trivial⟩, eHh.chunk _ _ rfl]
       rfl
     simp only [List.map_cons, List.map_nil, e]
     exact h
   · have e : frzV u (rowC ceH l) true false (.osl u 0 l.length none 7) = .sl 7 (l.map encH) .sh := by
       simp only [frzV, frz1]
       rw [if_pos ⟨trivial, by rw [eHh.rowLen]; omega, by omega, .inl trivial⟩, eHh.chunk _ _ rfl]
       rfl
     simp only [List.map_cons, List.map_nil, e]
     rfl
theorem dl_H (l : List Hdr) (i : Nat) (hlen : l.length * 56 ≤ 140737488351232) (hi : i < l.length) {H : List (List AVal)} {u : Nat} (hu : H[u]? = some (rowU l)) :
   CFun Try.prog 82 [.osl u 0 l.length none 7, .int .i64 i, .int .i64 (i + 1)] H (.osl u 0 (l.length - 1) none 7) (H.set u (rowU (l.eraseIdx i))) := by
 have := (s82 l i _ rfl hlen hi).at (H := H) (id := u) (by rw [hu, rowU_of (by rintro rfl; simp at hi)]) (eHh.rowNoid l) (rowU_noid _) (by simp [low, low0]) rfl
 simpa [ren, ren0] using this
set_option maxHeartbeats 2000000 in
set_option maxRecDepth 10000 in
theorem nh_e (b : Hdr) : CFun Try.prog 44 [.osl 0 0 0 none 7, .int .i64 0, .sl 7 [.agg (ceH b)] .sh] [[.undef]] (.osl 1 0 1 none 7) [[], rowC ceH [b]] := by
 refine CFun.intro (tr := [100025, 100040]) (fz := []) (n := 95) (rs := [.tmp 6]) Try.func44 rfl (by kernel_rfl) rfl rfl mixed (by kernel_rfl) (by simp) (by simp) ?_
 simp [ceH, rowC]
theorem in_H (l : List Hdr) (i : Nat) (hlen : (l.length + 1) * 56 ≤ 140737488355328) (hi : i ≤ l.length) (b : Hdr) {H : List (List AVal)} {u : Nat} (hu : H[u]? = some (rowU l)) :
   CFun Try.prog 44 [.osl u 0 l.length none 7, .int .i64 i, .sl 7 [encH b] .full] H (.osl H.length 0 (l.length + 1) none 7) (H.set u [] ++ [rowU (insL l i b)]) := by
 have hne : insL l i b ≠ [] := by
   intro e
   have := insL_len (b := b) hi
   rw [e] at this
   simp at this
 rw [rowU_of hne]
 have h : CFun Try.prog 44 [.osl 0 0 l.length none 7, .int .i64 i, .sl 7 [.agg (ceH b)] .sh] [rowU l] (.osl 1 0 (l.length + 1) none 7) [[], rowC ceH (insL l i b)] := by
   by_cases h0 : l = []
   · subst h0
     obtain rfl : i = 0 := by simpa using hi
     exact nh_e b
   · rw [rowU_of h0]
     exact nh_insR l i _ rfl hlen hi (List.length_pos_iff.2 h0) b
 have h2 := h.wk [.osl 0 0 l.length none 7, .int .i64 i, .sl 7 [.agg (ceH b)] .full] (by simp) ⟨LeS_refl _, LeS_refl _, by simp [LeS], trivial⟩
 have := h2.atNew (H := H) (id := u) hu (rowU_noid l) rfl (eHh.rowNoid _) (by simp [low, low0]) (by simp [low, low0])
 simpa [ren, ren0, grow, ceH] using this
end Go.Proofs.Ythonenmafbpbkaa

/- Acknowledgements: the reference's Ack, by the program; the law FloodAcks. -/
namespace Go.Proofs.Ythonenmafbpbkaa
open Go Go.Am
set_option maxHeartbeats 1000000 in
set_option maxRecDepth 10000 in
theorem a58 (n : Nbr) : CFun Try.prog 58 [encN n] [] (.bool (waitsN n)) [] := by
 refine CFun.intro (tr := []) (fz := []) (n := 20) (rs := [.tmp 2]) Try.func58 rfl (by kernel_rfl) rfl rfl mixed (by kernel_rfl) (by simp) (by simp) ?_
 unfold waitsN
 by_cases h3 : n.State = 3
 · simp [h3]
 by_cases h4 : n.State = 4
 · cases hm : n.Master <;> simp [h4, hm]
 by_cases h5 : n.State = 5
 · simp [h5]
 · simp [h3, h4, h5]
theorem key_ne {q k : LKey} (hb : ¬ q = k) : ¬ (q.Ty = k.Ty ∧ q.ID = k.ID ∧ q.Len = k.Len ∧ q.Router = k.Router) := by
 rintro ⟨r1, r2, r3, r4⟩
 cases q; cases k; simp_all
set_option maxHeartbeats 8000000 in
set_option maxRecDepth 10000 in
theorem a17 (n : Nbr) (m : Nat) (hm : n.Una.length = m) (hm2 : m * 56 ≤ 140737488351232) (hnA : ∀ x ∈ n.Una, inI x.Age) (l : List Hdr) (k : Nat) (hk : l.length = k) (hl : k < 8796093022208) (hlA : ∀ x ∈ l, inI x.Age) : CFun Try.prog 17 [encN n, .sl 7 (l.map encH) .sh] [] (encN (ackN n l)) [] := by
 refine CFun.intro (tr := [48]) (fz := []) (n := 64) (rs := [.cell 4 38]) Try.func17 rfl (by kernel_rfl) rfl rfl mixed (by kernel_rfl) (by simp) (by simp) ?_
 obtain ⟨W, hW⟩ : ∃ W, W = n.Una.filter (fun u => !goneH l u) := ⟨_, rfl⟩
 have e : ackN n l = { n with Una := W, Rsd := if W = [] ∧ waitsN n = false then 0 else n.Rsd } := by rw [hW]; rfl
 rw [e]
 clear e
 simp
 refine LoopK.intro (tr := [48]) mixed (by kernel_rfl) (fun s : Nat × List Hdr => [(1, .sl 7 (l.map encH) .sh), (2, .ptr 0 0), (4, .ptr 1 0), (5, .sl 7 (s.2.map encH) .own), (6, .int .i64 s.1)]) (fun _ => [cellsN n, zN])
   (fun s => s.1 ≤ m ∧ s.2.length ≤ s.1 ∧ W = s.2 ++ (n.Una.drop s.1).filter (fun u => !goneH l u)) (fun s => m - s.1) (0, []) ?_ ?_ ?_
 · exact ⟨Nat.zero_le _, Nat.le_refl _, by simpa using hW⟩
 · simp [zN]
 rintro ⟨i, acc⟩ ⟨i1, i2, i3⟩
 simp only at i1 i2 i3 ⊢
 by_cases hi : i < m
 · obtain ⟨u, hu, hd⟩ := get_drop (l := n.Una) (i := i) (by omega)
   rw [hd] at i3
   simp only [List.filter_cons] at i3
   have huA := hnA u (List.mem_of_getElem? hu)
   have w1 : IntKind.i64.wrap ((i : Int) + 1) = i + 1 := wrap_in (by omega)
   have s1 : acc.length ≤ 140737488355327 := by omega
   have s2 : (acc.length + 1) * 56 ≤ 140737488355328 := by omega
   have ku := fun H => (c26 u).up' H rfl rfl
   simp [hi, hm, hu, gE hu]
   refine LoopK.intro (tr := [48]) mixed (by kernel_rfl) (fun s : Nat × Bool => [(1, .sl 7 (l.map encH) .sh), (2, .ptr 0 0), (4, .ptr 1 0), (5, .sl 7 (acc.map encH) .own), (6, .int .i64 i), (7, .ptr 2 0), (8, .bool s.2), (9, .int .i64 s.1)]) (fun _ => [cellsN n, zN, cellsH u])
     (fun s => s.1 ≤ k ∧ goneH l u = (s.2 || (l.drop s.1).any (fun h => decide (keyH u = keyH h) && decide (cmpH u h = 0)))) (fun s => k - s.1) (0, false) ?_ ?_ ?_
   · exact ⟨Nat.zero_le _, by simp [goneH]⟩
   · simp [zN]
   rintro ⟨j, b⟩ ⟨j1, j2⟩
   simp only at j1 j2 ⊢
   by_cases hj : j < k
   · obtain ⟨h, hh, hd2⟩ := get_drop (l := l) (i := j) (by omega)
     rw [hd2] at j2
     simp only [List.any_cons] at j2
     have w2 : IntKind.i64.wrap ((j : Int) + 1) = j + 1 := wrap_in (by omega)
     have kh := fun H => (c26 h).up' H rfl rfl
     have kc := fun H => (c17 h u (hlA h (List.mem_of_getElem? hh)) huA).up' H rfl rfl
     have hf := cmpH_flip h u (hlA h (List.mem_of_getElem? hh)) huA
     have hky := keyY_iff (keyH h) (keyH u)
     by_cases hb : keyH h = keyH u
     · have hb2 : keyH u = keyH h := hb.symm
       by_cases hc : cmpH h u = 0
       · have hc2 := hf.1 hc
         have hg : goneH l u = true := by rw [j2, decide_eq_true hb2, decide_eq_true hc2]; simp
         rw [hc] at kc
         rw [hb] at kh
         generalize keyH u = q at *
         simp [hj, hk, hh, gE hh, -Bool.exists_bool]
         refine ⟨_, _, .inl (by simpa using kh _), by simp, ?_⟩
         simp [-Bool.exists_bool]
         refine ⟨_, _, .inl (by simpa using ku _), by simp, ?_⟩
         simp [hj, hk, hh, gE hh, -Bool.exists_bool]
         refine ⟨_, _, .inl (by simpa using kc _), by simp, ?_⟩
         simp [w2, -Bool.exists_bool]
         exact ⟨j + 1, true, ⟨by omega, by rw [hg]; simp⟩, by omega, by simp [zN]⟩
       · have hc2 : ¬ cmpH u h = 0 := fun e => hc (hf.2 e)
         rw [decide_eq_false hc2, Bool.and_false, Bool.false_or] at j2
         rw [hb] at kh
         generalize cmpH h u = c at *
         generalize keyH u = q at *
         simp [hj, hk, hh, gE hh, -Bool.exists_bool]
         refine ⟨_, _, .inl (by simpa using kh _), by simp, ?_⟩
         simp [-Bool.exists_bool]
         refine ⟨_, _, .inl (by simpa using ku _), by simp, ?_⟩
         simp [hj, hk, hh, gE hh, -Bool.exists_bool]
         refine ⟨_, _, .inl (by simpa using kc _), by simp, ?_⟩
         simp [hc, w2, -Bool.exists_bool]
         exact ⟨j + 1, b, ⟨by omega, j2⟩, by omega, by simp [zN]⟩
     · have hb2 : ¬ keyH u = keyH h := fun e => hb e.symm
       rw [decide_eq_false hb2, Bool.false_and, Bool.false_or] at j2
       have hk2 := key_ne hb
       generalize keyH u = q at *
       generalize keyH h = q2 at *
       simp [hj, hk, hh, gE hh, -Bool.exists_bool]
       refine ⟨_, _, .inl (by simpa using kh _), by simp, ?_⟩
       simp [-Bool.exists_bool]
       refine ⟨_, _, .inl (by simpa using ku _), by simp, ?_⟩
       simp [hk2, w2, -Bool.exists_bool]
       exact ⟨j + 1, b, ⟨by omega, j2⟩, by omega, by simp [zN]⟩
   · rw [List.drop_eq_nil_of_le (by omega)] at j2
     simp only [List.any_nil, Bool.or_false] at j2
     subst j2
     generalize goneH l u = b at *
     cases b with
     | true =>
       simp only [Bool.not_true, Bool.false_eq_true, if_false] at i3
       simp [hj, hk, w1]
       exact ⟨i + 1, acc, ⟨by omega, by omega, i3⟩, by omega, by simp [zN]⟩
     | false =>
       simp only [Bool.not_false, if_true] at i3
       simp [hj, hk, w1, s1, s2]
       exact ⟨i + 1, acc ++ [u], ⟨by omega, by simp; omega, by simpa using i3⟩, by omega, by simp [zN]⟩
 · rw [List.drop_eq_nil_of_le (by omega), List.filter_nil, List.append_nil] at i3
   subst i3
   have k58 := fun H => (a58 { n with Una := W }).up' H rfl rfl
   have hw : waitsN { n with Una := W } = waitsN n := rfl
   rw [hw] at k58
   generalize waitsN n = b at *
   have hnil : W = [] ↔ W.length = 0 := List.length_eq_zero_iff.symm
   by_cases c1 : W = []
   · subst c1
     simp [hi, hm]
     refine ⟨_, _, .inl (by simpa using k58 _), by simp, ?_⟩
     cases b <;> simp [zN]
   · have c2 : ¬ W.length = 0 := fun e => c1 (hnil.2 e)
     simp [hi, hm, c1, c2, zN]
set_option maxHeartbeats 4000000 in
set_option maxRecDepth 10000 in
theorem a4 (n : Nbr) (ok : okN n) (l : List Hdr) (hl : l.length < 8796093022208) (hlA : ∀ x ∈ l, inI x.Age) : CFun Try.prog 4 [encN n, .sl 7 (l.map encH) .sh] [] (.bool true) [] := by
 refine CFun.intro (tr := []) (fz := []) (n := 15) (rs := [.tmp 4]) Try.func4 rfl (by kernel_rfl) rfl rfl mixed (by kernel_rfl) (by simp) (by simp) ?_
 have h1 := ok.lst
 have h2 := ok.sent
 have h3 := ok.req
 have h4 := ok.una
 have hfl := List.length_filter_le (fun x => !goneH l x) n.Una
 have k16 := fun H => (a16 n ok l hl).up' H rfl rfl
 have k17 := fun H => (a17 n _ rfl h4 (fun x hx => (ok.huna x hx).2.2.2.2.2.1) l _ rfl hl hlA).up' H rfl rfl
 have k15 := fun H => (x12 (ackN n l) (by simp only [ackN]; omega) (by simp only [ackN]; omega) (by simp only [ackN]; omega) (by simp only [ackN]; omega)).up' H rfl rfl
 have k10 := fun H => f10.up' H rfl rfl
 generalize ackN n l = a at *
 simp
 refine ⟨_, _, .inl (by simpa using k16 _), by simp, ?_⟩
 simp
 refine ⟨_, _, .inl (by simpa using k17 _), by simp, ?_⟩
 simp
 refine ⟨_, _, .inl (by simpa using k15 _), by simp, ?_⟩
 simp
 refine ⟨_, _, .inl (by simpa using k10 _), by simp, ?_⟩
 simp
end Go.Proofs.Ythonenmafbpbkaa

/- What is due; what is waited for: the program's Due and the reference's. -/
namespace Go.Proofs.Ythonenmafbpbkaa
open Go Go.Am
def dueN (n : Nbr) (now : Int) : Nbr × List Hdr := if n.Rsd = 0 ∨ now < n.Rsd ∨ n.Una = [] then (n, []) else ({ n with Rsd := now + 5 }, n.Una)
@[simp] def encDu (q : Nbr × List Hdr) : AVal := .tup [encN q.1, .sl 7 (q.2.map encH) .sh]
set_option maxHeartbeats 4000000 in
set_option maxRecDepth 10000 in
theorem e18 (n : Nbr) (ok : okN n) (now : Int) (hw : inI (now + 5)) : CFun Try.prog 18 [encN n, .int .i64 now] [] (encDu (dueN n now)) [] := by
 refine CFun.intro (tr := []) (fz := []) (n := 31) (rs := [.cell 4 38, .tmp 5]) Try.func18 rfl (by kernel_rfl) rfl rfl mixed (by kernel_rfl) (by simp) (by simp) ?_
 have k49 := fun H => (a49 n ok.lst ok.sent ok.req ok.una).up' H rfl rfl
 have k59 := fun H => (ch_row n.Una (by have := ok.una; omega)).up' H rfl rfl
 have w1 : IntKind.i64.wrap (now + 5) = now + 5 := wrap_in hw
 have hnil : n.Una = [] ↔ n.Una.length = 0 := List.length_eq_zero_iff.symm
 unfold dueN
 by_cases c1 : n.Rsd = 0
 · simp [c1]
   refine ⟨_, _, .inl (by simpa [c1] using k49 _), by simp, ?_⟩
   simp [c1]
 by_cases c2 : now < n.Rsd
 · simp [c1, c2]
   refine ⟨_, _, .inl (by simpa using k49 _), by simp, ?_⟩
   simp [c1, c2]
 by_cases c3 : n.Una.length = 0
 · have c4 := hnil.2 c3
   simp [c1, c2, c4]
   refine ⟨_, _, .inl (by simpa [c4] using k49 _), by simp, ?_⟩
   simp [c1, c2, c4]
 · have c4 : ¬ n.Una = [] := fun e => c3 (hnil.1 e)
   simp [c1, c2, c4]
   refine ⟨_, _, .inl (by simpa using k49 _), by simp, ?_⟩
   simp [c1, c2, c3, c4, w1]
   refine ⟨_, _, .inl (by simpa using k59 _), by simp, ?_⟩
   simp
set_option maxHeartbeats 4000000 in
set_option maxRecDepth 10000 in
theorem e19 (n : Nbr) (ok : okN n) (now : Int) (hw : inI (now + 5)) : CFun Try.prog 19 [encN n, .int .i64 now] [] (encDu (dueN n now)) [] := by
 refine CFun.intro (tr := []) (fz := []) (n := 30) (rs := [.cell 4 38, .tmp 5]) Try.func19 rfl (by kernel_rfl) rfl rfl mixed (by kernel_rfl) (by simp) (by simp) ?_
 have hu := ok.una
 have w1 : IntKind.i64.wrap (now + 5) = now + 5 := wrap_in hw
 have hnil : n.Una = [] ↔ n.Una.length = 0 := List.length_eq_zero_iff.symm
 have s1 : n.Una.length * 56 ≤ 140737488355328 := by omega
 have s2 : n.Una.length ≤ 140737488355328 := by omega
 unfold dueN
 by_cases c1 : n.Rsd = 0
 · simp [c1]
 by_cases c2 : now < n.Rsd
 · simp [c1, c2]
 by_cases c3 : n.Una.length = 0
 · have c4 := hnil.2 c3
   simp [c1, c2, c4]
 · have c4 : ¬ n.Una = [] := fun e => c3 (hnil.1 e)
   simp [c1, c2, c3, c4, w1, s1, s2]
end Go.Proofs.Ythonenmafbpbkaa

/- What is waited for: Waiting, by the program and the reference. -/
namespace Go.Proofs.Ythonenmafbpbkaa
open Go Go.Am
structure Ifs where
  Kind : Int
  C1 : Int
  C2 : Int
  Area : Int
  C4 : Int
  C5 : Int
  C6 : Int
  C7 : Int
  C8 : Int
  Up : Bool
  DR : Int
  BDR : Int
  T1 : Int
  T2 : Int
  Nb : List Nbr
@[simp] def cellsIx (s : Ifs) (x : AVal) : List AVal := [.int .i64 s.Kind, .int .u32 s.C1, .int .i64 s.C2, .int .u32 s.Area, .int .u32 s.C4, .int .i64 s.C5, .int .i64 s.C6, .int .i64 s.C7, .int .i64 s.C8, .bool s.Up, .int .u32 s.DR, .int .u32 s.BDR, .int .i64 s.T1, .int .i64 s.T2, x]
@[simp] def cellsI (s : Ifs) : List AVal := cellsIx s (.sl 15 (s.Nb.map encN) .sh)
@[simp] def encIf (s : Ifs) : AVal := .agg (cellsI s)
@[simp] theorem awp_range {P : Program} {tr : List Nat} {n m : Nat} {g : Operand} {ps : Array Tmp} {asg body : Code} {Q : APost} {s : ASt} : awp P tr n m (.rangeFunc g ps asg body) Q s = RangeK P n m g ps asg body Q s := Eq.trans rfl rfl
set_option maxHeartbeats 2000000 in
set_option maxRecDepth 10000 in
theorem e39 (cs : List AVal) : CFun Try.prog 39 [.iptr cs 0] [] (.fn 78 [] [.ptr 0 0]) [[.iptr cs 0]] := by
 refine CFun.intro (tr := []) (fz := []) (n := 4) (rs := [.tmp 2]) Try.func39 rfl (by kernel_rfl) rfl rfl mixed (by kernel_rfl) (by simp) (by simp) ?_
 simp
set_option maxHeartbeats 2000000 in
set_option maxRecDepth 10000 in
theorem e60 (k : LKey) (u : Hdr) : CFun Try.prog 60 [encH u, .ptr 0 0] [cellsY k] (.bool (hasKH k u)) [cellsY k] := by
 refine CFun.intro (tr := []) (fz := []) (n := 8) (rs := [.tmp 3]) Try.func60 rfl (by kernel_rfl) rfl rfl mixed (by kernel_rfl) (by simp) (by simp) ?_
 have k1 := fun H => (c25 u).up' H rfl rfl
 have hh : hasKH k u = decide (keyH u = k) := rfl
 rw [hh]
 generalize keyH u = q at *
 clear hh
 simp
 refine ⟨_, _, .inl (by simpa using k1 _), by simp, ?_⟩
 by_cases hb : q = k
 · subst hb
   simp
 · have hk2 := key_ne hb
   simp [hk2, hb]
   exact fun a b c d => hk2 ⟨a, b, c, d⟩
set_option maxHeartbeats 2000000 in
set_option maxRecDepth 10000 in
theorem e52 (l : List Hdr) (hl : l.length < 8796093022208) (k : LKey) : CFun Try.prog 52 [.sl 7 (l.map encH) .sh, .fn 60 [] [.ptr 0 0]] [cellsY k] (.bool (l.any (hasKH k))) [cellsY k] := by
 refine CFun.intro (tr := []) (fz := []) (n := 9) (rs := [.tmp 4]) Try.func52 rfl (by kernel_rfl) rfl rfl mixed (by kernel_rfl) (by simp) (by simp) ?_
 have h := ih_ix l _ rfl hl (hasKH k) 60 [] [.ptr 0 0] [cellsY k] (by simp [low, low0]) (by simp) (fun x _ => e60 k x)
 rw [idxL_any _ _ 0]
 generalize idxL (hasKH k) l 0 = q at h
 simp
 refine ⟨_, _, .inl h, by simp, ?_⟩
 simp
def waitB (k : LKey) (n : Nbr) : Bool := n.Una.any (hasKH k)
def waitL (l : List Ifs) (k : LKey) : Bool := l.any fun s => s.Nb.any (waitB k)
set_option maxHeartbeats 8000000 in
set_option maxRecDepth 10000 in
theorem e21 (l : List Ifs) (m : Nat) (hm : l.length = m) (hm2 : m < 8796093022208) (hl : ∀ s ∈ l, s.Nb.length < 8796093022208 ∧ ∀ n ∈ s.Nb, n.Una.length < 8796093022208) (k : LKey) : CFun Try.prog 21 [.sl 15 (l.map encIf) .sh, encY k] [] (.bool (waitL l k)) [] := by
 refine CFun.intro (tr := []) (fz := []) (n := 24) (rs := [.cell 4 4]) Try.func21 rfl (by kernel_rfl) rfl rfl mixed (by kernel_rfl) (by simp) (by simp) ?_
 obtain ⟨W, hW⟩ : ∃ W, W = waitL l k := ⟨_, rfl⟩
 rw [← hW]
 simp [hm]
 refine LoopK.intro (tr := []) mixed (by kernel_rfl) (fun i : Nat => [(0, .sl 15 (l.map encIf) .sh), (3, .ptr 0 0), (4, .ptr 1 0), (7, .sl 15 (l.map encIf) .sh), (8, .int .i64 m), (9, .int .i64 i)]) (fun _ => [cellsY k, [.bool false]])
   (fun i => i ≤ m ∧ W = (l.drop i).any fun s => s.Nb.any (waitB k)) (fun i => m - i) 0 ?_ ?_ ?_
 · exact ⟨Nat.zero_le _, by simpa [waitL] using hW⟩
 · simp
 rintro i ⟨i1, i2⟩
 by_cases hi : i < m
 case neg =>
   rw [List.drop_eq_nil_of_le (by omega)] at i2
   subst i2
   simp [hi]
 obtain ⟨s, hs, hd⟩ := get_drop (l := l) (i := i) (by omega)
 rw [hd] at i2
 simp only [List.any_cons] at i2
 obtain ⟨g1, g2⟩ := hl s (List.mem_of_getElem? hs)
 have w1 : IntKind.i64.wrap ((i : Int) + 1) = i + 1 := wrap_in (by omega)
 have k39 : CFun Try.prog 39 [.iptr (cellsI s) 0] [cellsY k, [.bool false]] (.fn 78 [] [.ptr 2 0]) [cellsY k, [.bool false], [.iptr (cellsI s) 0]] := (e39 (cellsI s)).upAll [cellsY k, [.bool false]] (by simp [noid, noid0]) rfl rfl
 simp [hi, hm, hs, gE hs]
 refine ⟨_, _, .inl (by simpa using k39), by simp, ?_⟩
 simp
 refine RangeK.introG (tr := []) mixed (by kernel_rfl) (by kernel_rfl) rfl rfl (p := 16) (by simp) iter78 ⟨_, Try.func78, rfl, rfl⟩ (idb := 2) (len := s.Nb.length) (by omega) (by simp) _ (fun H => H[2]? = some [.iptr (cellsI s) 0]) (by simp) (SrcOk.data (xs := s.Nb.map encN) (off := 0) (c := 14) (cs := cellsI s) (by simp) rfl)
   (fun _ : Unit => [cellsY k, [.bool false], [.iptr (cellsI s) 0]]) (fun j _ => j ≤ s.Nb.length ∧ s.Nb.any (waitB k) = (s.Nb.drop j).any (waitB k)) () ⟨Nat.zero_le _, rfl⟩ (by simp) (by simp) ?_ ?_
 · rintro j ⟨⟩ ⟨j1, j2⟩ hj
   obtain ⟨n, hn, hnd⟩ := get_drop (l := s.Nb) (i := j) hj
   rw [hnd] at j2
   simp only [List.any_cons] at j2
   have k52 : CFun Try.prog 52 [.sl 7 (n.Una.map encH) .sh, .fn 60 [] [.ptr 0 0]] [cellsY k, [.bool false], [.iptr (cellsI s) 0]] (.bool (waitB k n)) [cellsY k, [.bool false], [.iptr (cellsI s) 0]] := by
     simpa [waitB, ren, ren0] using (e52 n.Una (g2 n (List.mem_of_getElem? hn)) k).at (H := [cellsY k, [.bool false], [.iptr (cellsI s) 0]]) (id := 0) rfl (by simp [noid0]) (by simp [noid0]) (by simp [low, low0]) (by simp [low, low0])
   have gN := gE hn
   cases hb : waitB k n with
   | true =>
     rw [hb] at k52 j2
     have hWt : W = true := by rw [i2, j2]; rfl
     clear i2 j2 hW
     subst hWt
     simp [asgPost, hn]
     refine ⟨_, _, .inl (by simpa using k52), by simp, ?_⟩
     simp [roundPostA]
     exact ⟨[cellsY k, [.bool true], [.iptr (cellsI s) 0]], by simp, by simp, by simp⟩
   | false =>
     rw [hb] at k52 j2
     simp [asgPost, hn]
     refine ⟨_, _, .inl (by simpa using k52), by simp, ?_⟩
     simp [roundPostA]
     exact ⟨hj, j2.trans (Bool.false_or _)⟩
 · rintro ⟨⟩ ⟨j1, j2⟩
   simp only [List.drop_length, List.any_nil] at j2
   rw [j2, Bool.false_or] at i2
   simp
   exact ⟨i + 1, ⟨hi, i2⟩, by omega, w1⟩
end Go.Proofs.Ythonenmafbpbkaa

/- flood.remove, among variables that are known by their numbers alone. -/
namespace Go.Proofs.Ythonenmafbpbkaa
open Go Go.Am
theorem Sim.pad {n m : Nat} {s : ASt} : Sim n m s ⟨s.t, s.H ++ [[]]⟩ := fun _ _ G _ _ h =>
 ⟨G, h.sz, h.out, h.dfr0, h.clean, h.ext, Nat.le_trans h.hm (by simp), h.sr.pad, fun i v hv => ⟨(h.tmp i v hv).1.mono (by simp) (fun _ _ => rfl) (Frz.le.refl _), (h.tmp i v hv).2⟩⟩
theorem CFunP.introA {P : Program} {f : FuncId} {fn : Func} {c : Code} {rs : List ResultVar} {tr : List Nat} {n : Nat} {args : List AVal} {H : List (List AVal)} {Q : AVal → List (List AVal) → Prop} (hf : P.funcs[f]? = some fn) (hb : fn.body = some c)
   (hname : (fn.name == "runtime.NumGoroutine") = false) (hrs : fn.results = rs.toArray) (hnt : fn.ntmps = n) (hmx : P.follows .mixedOrders = true) (hg : good tr n c = true) (hn : args.length ≤ n) (ho : args.all (fun x => !x.isOwn) = true)
   (h : awp P tr n H.length c (retP P n H.length rs Q) ⟨argT args, H⟩) : CFunP P f args H Q :=
 CFunP.intro hf hb hname hrs hnt hn ho (awp_sound hmx c _ _ hg h)
@[simp] def cellsO (n : Nbr) (x y : AVal) : List AVal := [.int .u32 n.Router, .int .u32 n.Addr, .int .i64 n.Pri, .int .u32 n.DR, .int .u32 n.BDR, .int .i64 n.State, .int .i64 n.Til, .bool n.Master, .int .i64 n.Seq,
  .sl 7 (n.Lst.map encH) .sh, .sl 7 (n.Sent.map encH) .sh, .bool n.More, x, y, .int .i64 n.Rsd]
theorem aloadF {k : Nat} {cs : List AVal} {off : Nat} : aload (some (false, k)) cs off = (cs[off]?).map AVal.dis := rfl
theorem aloadT {n : Nbr} {a b c d off : Nat} {Nc : List AVal} (hL : off + 15 ≤ Nc.length) (hT : (Nc.drop off).take 15 = cellsO n (.osl a 0 b none 7) (.osl c 0 d none 7)) : aload (some (true, 15)) Nc off = some (.mix (cellsO n (.osl a 0 b none 7) (.osl c 0 d none 7))) := by
 simp only [aload]
 rw [hT, if_neg (by simp), if_pos ⟨by omega, hL, by simp⟩]
 rfl
theorem take13 {n : Nbr} {a d u e off : Nat} {x y : AVal} {Nc : List AVal} (W : List Hdr) (hT : (Nc.drop off).take 15 = cellsO n x y) :
   ((Nc.set (off + 13) (.osl u 0 W.length none 7)).drop off).take 15 = cellsO { n with Una := W } x (.osl u 0 W.length none 7) := by
 rw [List.drop_set, if_neg (by omega), Nat.add_sub_cancel_left, List.take_set, hT]
 rfl
set_option maxHeartbeats 2000000 in
set_option maxRecDepth 10000 in
theorem r56 (n : Nbr) (a b c d : Nat) (H : List (List AVal)) : CFun Try.prog 56 [.mix (cellsO n (.osl a 0 b none 7) (.osl c 0 d none 7))] H (.bool (waitsN n)) (H ++ [[]]) := by
 have h : CFun Try.prog 56 [.mix (cellsO n (.osl a 0 b none 7) (.osl c 0 d none 7))] H (.bool (waitsN n)) (H ++ [cellsO n (.osl a 0 b none 7) (.osl c 0 d none 7)]) := by
   refine CFunP.toFun (CFunP.introA (tr := []) (n := 20) (rs := [.tmp 2]) Try.func56 rfl (by kernel_rfl) rfl rfl mixed (by kernel_rfl) (by simp) (by simp) ?_)
   unfold waitsN
   by_cases h3 : n.State = 3
   · simp [h3, retP]
     exact ⟨_, Sim.refl, rfl, rfl⟩
   by_cases h4 : n.State = 4
   · cases hm : n.Master <;> simp [h4, hm, retP] <;> exact ⟨_, Sim.refl, rfl, rfl⟩
   by_cases h5 : n.State = 5
   · simp [h5, retP]
     exact ⟨_, Sim.refl, rfl, rfl⟩
   · simp [h3, h4, h5, retP]
     refine ⟨_, Sim.refl, ?_, rfl⟩
     simp [h5]
 have h2 := h.postW (H'' := (H ++ [cellsO n (.osl a 0 b none 7) (.osl c 0 d none 7)]).set H.length []) (by simp) (LeW.dead _ _)
 simpa using h2
set_option maxHeartbeats 2000000 in
set_option maxRecDepth 10000 in
theorem r79 (h u : Hdr) : CFun Try.prog 79 [encH u, .iptr (cellsH h) 0] [] (.bool (decide (keyH u = keyH h))) [] := by
 refine CFun.intro (tr := []) (fz := []) (n := 7) (rs := [.tmp 3]) Try.func79 rfl (by kernel_rfl) rfl rfl mixed (by kernel_rfl) (by simp) (by simp) ?_
 have k1 := fun H => (a54 u h).up' H rfl rfl
 simp
 refine ⟨_, _, .inl (by simpa using k1 _), by simp, ?_⟩
 simp
set_option maxHeartbeats 2000000 in
set_option maxRecDepth 10000 in
theorem r81 (h u : Hdr) : CFun Try.prog 81 [encH u, .iptr (cellsH h) 0] [] (.bool (decide (keyH u = keyH h))) [] := by
 refine CFun.intro (tr := []) (fz := []) (n := 7) (rs := [.tmp 3]) Try.func81 rfl (by kernel_rfl) rfl rfl mixed (by kernel_rfl) (by simp) (by simp) ?_
 have k1 := fun H => (a54 u h).up' H rfl rfl
 simp
 refine ⟨_, _, .inl (by simpa using k1 _), by simp, ?_⟩
 simp
def losN (n : Nbr) (h : Hdr) : List Hdr := n.Una.filter fun u => !decide (keyH u = keyH h)
def remN (n : Nbr) (h : Hdr) : Nbr := { n with Una := losN n h, Rsd := if ((losN n h).length < n.Una.length ∧ (losN n h).length = 0) ∧ waitsN n = false then 0 else n.Rsd }
set_option maxHeartbeats 8000000 in
set_option maxRecDepth 10000 in
theorem r40 (n : Nbr) (h : Hdr) (a d u b off : Nat) (H : List (List AVal)) (Nc : List AVal) (hlen : n.Una.length < 8796093022208) (hb : H[b]? = some Nc) (hL : off + 15 ≤ Nc.length)
   (hT : (Nc.drop off).take 15 = cellsO n (.osl a 0 d none 7) (.osl u 0 n.Una.length none 7)) (hu : H[u]? = some (rowU n.Una)) (hub : u ≠ b) :
   CFun Try.prog 40 [.ptr b off, encH h] H (.tup []) ((H.set u (rowU (remN n h).Una)).set b ((Nc.set (off + 13) (.osl u 0 (remN n h).Una.length none 7)).set (off + 14) (.int .i64 (remN n h).Rsd)) ++ [[], []]) := by
 have hget : ∀ j, j < 15 → Nc[off + j]? = (cellsO n (.osl a 0 d none 7) (.osl u 0 n.Una.length none 7))[j]? := fun j hj => by
   rw [← hT, List.getElem?_take, if_pos hj, List.getElem?_drop]
 have h13 := hget 13 (by omega)
 have h14 := hget 14 (by omega)
 simp at h13 h14
 have L13 : off + 13 + 1 ≤ Nc.length := by omega
 have L14 : off + 14 + 1 ≤ Nc.length := by omega
 have l13 : off + 13 < Nc.length := by omega
 have l14 : off + 14 < Nc.length := by omega
 have hbl : b < H.length := (List.getElem?_eq_some_iff.1 hb).1
 have hul : u < H.length := (List.getElem?_eq_some_iff.1 hu).1
 refine CFunP.toFun (CFunP.intro (n := 44) (rs := []) Try.func40 rfl (by kernel_rfl) rfl rfl (by simp) (by simp) ?_)
 refine SWp_seq (fun s => s = ⟨upd (argT [.ptr b off, encH h]) 3 (.ptr H.length 0), H ++ [cellsH h]⟩) (awp_sound (tr := []) mixed _ _ _ (by kernel_rfl) ?_) (fun _ => .inr trivial) ?_
 · simp
 rintro s rfl
 refine SWp.sim (s' := ⟨upd (upd (argT [.ptr b off, encH h]) 3 (.ptr H.length 0)) 3 (.iptr (cellsH h) 0), H ++ [[]]⟩) ?_ ?_
 · have := Sim.freezeT (n := 44) (m := H.length) (s := ⟨upd (argT [.ptr b off, encH h]) 3 (.ptr H.length 0), H ++ [cellsH h]⟩) H.length 3 false false (cs0 := cellsH h) (by simp) (by simp) (by simp)
   simpa [upd, frzV, frz1] using this
 obtain ⟨X, hX⟩ : ∃ X, X = H ++ [([] : List AVal)] := ⟨_, rfl⟩
 have xb : X[b]? = some Nc := by rw [hX, List.getElem?_append_left hbl]; exact hb
 have xu : X[u]? = some (rowU n.Una) := by rw [hX, List.getElem?_append_left hul]; exact hu
 have xbl : b < X.length := by rw [hX]; simp; omega
 have k50 := dh_H n.Una hlen (fun u => decide (keyH u = keyH h)) 79 [] [.iptr (cellsH h) 0] rfl rfl (fun x => r79 h x) xu
 rw [← hX]
 refine awp_sound (tr := []) mixed _ _ _ (by kernel_rfl) ?_
 have hle := List.length_filter_le (fun u => !decide (keyH u = keyH h)) n.Una
 simp [xb, h13]
 refine ⟨_, _, .inl (by simpa using k50), by simp, ?_⟩
 have xbi := gE xb
 generalize hW : (List.filter (fun u => !decide (keyH u = keyH h)) n.Una) = W at *
 have hld : aload (some (true, 15)) (Nc.set (off + 13) (.osl u 0 W.length none 7)) off = some (.mix (cellsO { n with Una := W } (.osl a 0 d none 7) (.osl u 0 W.length none 7))) := aloadT (by simpa using hL) (take13 (a := a) (d := d) (e := 0) W hT)
 have k56 := fun H => r56 { n with Una := W } a d u W.length H
 have hw : waitsN { n with Una := W } = waitsN n := rfl
 rw [hw] at k56
 have hfin : ∀ r : Int, (X.set u (rowU W)).set b ((Nc.set (off + 13) (.osl u 0 W.length none 7)).set (off + 14) (.int .i64 r)) ++ [[]] = (H.set u (rowU W)).set b ((Nc.set (off + 13) (.osl u 0 W.length none 7)).set (off + 14) (.int .i64 r)) ++ [[], []] := fun r => by
   rw [hX, List.set_append_left _ _ hul, List.set_append_left _ _ (by simpa using hbl), List.append_assoc]
   rfl
 have hsame : (Nc.set (off + 13) (.osl u 0 W.length none 7)).set (off + 14) (.int .i64 n.Rsd) = Nc.set (off + 13) (.osl u 0 W.length none 7) := by
   have : (Nc.set (off + 13) (.osl u 0 W.length none 7))[off + 14]? = some (.int .i64 n.Rsd) := by rw [List.getElem?_set_ne (by omega)]; exact h14
   apply List.ext_getElem?
   intro i
   rw [List.getElem?_set]
   split
   · rename_i e; subst e; rw [if_pos (by simpa using l14), this]
   · rfl
 unfold remN losN
 rw [hW]
 rw [← hfin]
 by_cases c1 : W.length < n.Una.length
 · by_cases c2 : W.length = 0
   · have c2' : W = [] := List.length_eq_zero_iff.1 c2
     subst c2'
     simp only [List.length_nil] at hld k56 c1 hsame
     simp [xb, xbi, h13, hub, L13, l13, xbl, h14, -aload, aloadF, c1, hld]
     refine ⟨_, _, .inl (by simpa using k56 _), by simp, ?_⟩
     have hAb : ∀ Z : List AVal, ((X.set u (rowU [])).set b Z ++ [[]])[b]? = some Z := fun Z => by rw [List.getElem?_append_left (by simpa using xbl)]; simp [xbl]
     have hAs : ∀ Z Y : List AVal, ((X.set u (rowU [])).set b Z ++ [[]]).set b Y = (X.set u (rowU [])).set b Y ++ [[]] := fun Z Y => by rw [List.set_append_left _ _ (by simpa using xbl), List.set_set]
     cases hw2 : waitsN n with
     | false =>
       simp [retP, hAb, hAs, -aload, aloadF, L14, l14]
       exact ⟨_, Sim.refl, rfl⟩
     | true =>
       simp [retP, hsame, -aload, aloadF]
       exact ⟨_, Sim.refl, rfl⟩
   · have c2' : ¬ W = [] := fun e => c2 (by rw [e]; rfl)
     simp [xb, xbi, h13, hub, L13, l13, xbl, h14, -aload, aloadF, c1, c2, c2', hsame, retP]
     exact ⟨_, Sim.pad, rfl⟩
 · simp [xb, xbi, h13, hub, L13, l13, xbl, h14, -aload, aloadF, c1, hsame, retP]
   exact ⟨_, Sim.pad, rfl⟩
end Go.Proofs.Ythonenmafbpbkaa

/- The exchange of databases: rows of packets; what a statement asks of a neighbor. -/
namespace Go.Proofs.Ythonenmafbpbkaa
open Go Go.Am
def lessR (n : Nbr) (at_ : Nat) : Nbr := if n.State = 5 ∧ n.Req.eraseIdx at_ = [] then { n with Req := n.Req.eraseIdx at_, State := 6, Rsd := if n.Una = [] then 0 else n.Rsd } else { n with Req := n.Req.eraseIdx at_ }
set_option maxHeartbeats 4000000 in
set_option maxRecDepth 10000 in
theorem x67 (n : Nbr) (at_ : Nat) (h3 : n.Req.length * 56 ≤ 140737488351232) : CFun Try.prog 86 [encN n, .int .i64 at_] [] (encN (lessR n at_)) [] := by
 refine CFun.intro (tr := []) (fz := []) (n := 26) (rs := [.cell 4 38]) Try.func86 rfl (by kernel_rfl) rfl rfl mixed (by kernel_rfl) (by simp) (by simp) ?_
 have k1 := fun H => (x89 n.Req _ at_ rfl h3).up' H rfl rfl
 unfold lessR
 generalize n.Req.eraseIdx at_ = r at *
 simp
 refine ⟨_, _, .inl (k1 _), by simp, ?_⟩
 by_cases a1 : n.State = 5
 case neg => simp [a1]
 by_cases a2 : r = []
 case neg =>
   simp [a1, a2]
 subst a2
 by_cases a3 : n.Una = []
 · simp [a1, a3]
 · simp [a1, a3]
end Go.Proofs.Ythonenmafbpbkaa
