/- Acknowledgements: Ack, by the program. -/
import Derived.Test.YthonenmafbpbkaaFA1
import Derived.Test.YthonenmafbpbkaaFXP2
set_option linter.unusedSimpArgs false
set_option linter.unusedVariables false
namespace Go.Proofs.Ythonenmafbpbkaa
open Go Go.Am
theorem goneH_idx (l : List Hdr) (u : Hdr) : goneH l u = decide (0 ≤ idxL (fun h => decide (keyH u = keyH h) && decide (cmpH u h = 0)) l 0) := idxL_any _ _ _
set_option maxHeartbeats 2000000 in
set_option maxRecDepth 10000 in
theorem a54 (u h : Hdr) : CFun Try.prog 54 [encH u, encH h] [] (.bool (decide (keyH u = keyH h))) [] := by
 refine CFun.intro (tr := []) (fz := []) (n := 10) (rs := [.tmp 4]) Try.func54 rfl (by kernel_rfl) rfl rfl mixed (by kernel_rfl) (by simp) (by simp) ?_
 have k1 := fun H => (c25 u).up' H rfl rfl
 have k2 := fun H => (c25 h).up' H rfl rfl
 have hk := keyY_iff (keyH u) (keyH h)
 generalize keyH u = kx at *
 generalize keyH h = kh at *
 simp
 refine ⟨_, _, .inl (by simpa using k1 _), by simp, ?_⟩
 simp
 refine ⟨_, _, .inl (by simpa using k2 _), by simp, ?_⟩
 by_cases e : kx = kh
 · subst e
   simp
 · rw [decide_eq_false e] at hk
   simp only [Bool.and_eq_false_iff, beq_eq_false_iff_ne] at hk
   have hk2 : ¬ (kx.Ty = kh.Ty ∧ kx.ID = kh.ID ∧ kx.Len = kh.Len ∧ kx.Router = kh.Router) := by
     rintro ⟨r1, r2, r3, r4⟩
     cases kx; cases kh; simp_all
   simp [hk2, e]
   exact fun a b c d => hk2 ⟨a, b, c, d⟩
set_option maxHeartbeats 2000000 in
set_option maxRecDepth 10000 in
theorem a53 (u h : Hdr) : CFun Try.prog 53 [encH h, .ptr 0 0] [cellsH u] (.bool (decide (keyH u = keyH h) && decide (cmpH u h = 0))) [cellsH u] := by
 refine CFun.intro (tr := []) (fz := []) (n := 13) (rs := [.tmp 3]) Try.func53 rfl (by kernel_rfl) rfl rfl mixed (by kernel_rfl) (by simp) (by simp) ?_
 have k1 := fun H => (a54 u h).up' H rfl rfl
 have k2 := fun H => (c16 u h).up' H rfl rfl
 generalize cmpH u h = c at *
 by_cases e : keyH u = keyH h
 · simp
   refine ⟨_, _, .inl (by simpa using k1 _), by simp, ?_⟩
   simp [e]
   refine ⟨_, _, .inl (by simpa using k2 _), by simp, ?_⟩
   have hc0 : (c == 0) = decide (c = 0) := rfl
   simp [hc0]
 · simp
   refine ⟨_, _, .inl (by simpa using k1 _), by simp, ?_⟩
   simp [e]
set_option maxHeartbeats 2000000 in
set_option maxRecDepth 10000 in
theorem a52 (l : List Hdr) (hl : l.length < 8796093022208) (u : Hdr) : CFun Try.prog 52 [.sl 7 (l.map encH) .sh, .fn 53 [] [.ptr 0 0]] [cellsH u] (.bool (goneH l u)) [cellsH u] := by
 refine CFun.intro (tr := []) (fz := []) (n := 9) (rs := [.tmp 4]) Try.func52 rfl (by kernel_rfl) rfl rfl mixed (by kernel_rfl) (by simp) (by simp) ?_
 have h := ih_ix l _ rfl hl (fun h => decide (keyH u = keyH h) && decide (cmpH u h = 0)) 53 [] [.ptr 0 0] [cellsH u] (by simp [low, low0]) (by simp) (fun x _ => a53 u x)
 rw [goneH_idx]
 generalize idxL (fun h => decide (keyH u = keyH h) && decide (cmpH u h = 0)) l 0 = q at h
 simp
 refine ⟨_, _, .inl h, by simp, ?_⟩
 simp
set_option maxHeartbeats 2000000 in
set_option maxRecDepth 10000 in
theorem a51 (l : List Hdr) (hl : l.length < 8796093022208) (u : Hdr) : CFun Try.prog 51 [encH u, .iptr [.sl 7 (l.map encH) .sh] 0] [] (.bool (goneH l u)) [] := by
 refine CFun.intro (tr := []) (fz := []) (n := 7) (rs := [.tmp 3]) Try.func51 rfl (by kernel_rfl) rfl rfl mixed (by kernel_rfl) (by simp) (by simp) ?_
 have h := a52 l hl u
 simp
 refine ⟨_, _, .inl (by simpa using h), by simp, ?_⟩
 simp
theorem dh_delN (l : List Hdr) (n : Nat) (hn : l.length = n) (h0 : 0 < n) (hlen : n < 8796093022208) (p : Hdr → Bool) (f : FuncId) (fs cs : List AVal) (hfs : fs.all noid0 = true) (hcs : cs.all noid0 = true)
   (hp : ∀ x, CFun Try.prog f (fs ++ [.agg (ceH x)] ++ cs) [] (.bool (p x)) []) : CFun Try.prog 50 [.osl 0 0 n none 7, .fn f fs cs] [rowC ceH l] (.osl 0 0 (l.filter fun x => !p x).length none 7) [delRow ceH 7 p l] := by
 have hfl := (eHh).rowLen l
 rw [hn] at hfl
 have hne : rowC ceH l ≠ [] := by
   intro e
   rw [e] at hfl
   simp at hfl
   omega
 refine CFun.reveal (id := 0) (off := 0) (len := n) (k := 7) (cs := rowC ceH l) 0 rfl rfl hne (fun C hC => ?_) (fun C hC h0 => by omega)
 exact CFun.forget (c := some C) (CFun.less (dh_del l n C hn hC hlen p f fs cs hfs hcs hp) rfl ⟨LeCells_more _ (eHh.rowLe _ l), trivial⟩)
def cellsNu (n : Nbr) (x : AVal) : List AVal := [.int .u32 n.Router, .int .u32 n.Addr, .int .i64 n.Pri, .int .u32 n.DR, .int .u32 n.BDR, .int .i64 n.State, .int .i64 n.Til, .bool n.Master, .int .i64 n.Seq,
 .sl 7 (n.Lst.map encH) .sh, .sl 7 (n.Sent.map encH) .sh, .bool n.More, .sl 7 (n.Req.map encH) .sh, x, .int .i64 n.Rsd]
def zN : List AVal := [.int .u32 0, .int .u32 0, .int .i64 0, .int .u32 0, .int .u32 0, .int .i64 0, .int .i64 0, .bool false, .int .i64 0, .sl 0 [] .full, .sl 0 [] .full, .bool false, .sl 0 [] .full, .sl 0 [] .full, .int .i64 0]
set_option maxHeartbeats 8000000 in
set_option maxRecDepth 10000 in
theorem a16r (n : Nbr) (ok : okN n) (hne : n.Una ≠ []) (l : List Hdr) (hl : l.length < 8796093022208) : CFun Try.prog 16 [encN n, .sl 7 (l.map encH) .sh] [] (encN (ackN n l)) [] := by
 refine CFun.intro (tr := [3000003000002, 4500013000011]) (fz := []) (n := 23) (rs := [.cell 4 38]) Try.func16 rfl (by kernel_rfl) rfl rfl mixed (by kernel_rfl) (by simp) (by simp) ?_
 have hlen4 := ok.una
 have h0 : 0 < n.Una.length := List.length_pos_iff.2 hne
 have h49 := (a49r n ok hne).upAll [cellsN n, [.sl 7 (l.map encH) .sh], zN] (by simp [eHh.rowNoid, -List.all_eq_true]) rfl rfl
 have h50 := (dh_delN n.Una _ rfl h0 (by omega) (goneH l) 51 [] [.iptr [.sl 7 (l.map encH) .sh] 0] rfl rfl (fun x => a51 l hl x)).at (H := [cellsNu n (.osl 5 0 n.Una.length none 7), [], zN, [], [], rowC ceH n.Una]) (id := 5) rfl (eHh.rowNoid n.Una) (eHh.roomNoid _ _) (by simp [low, low0]) rfl
 have hfl := List.length_filter_le (fun x => !goneH l x) n.Una
 have hdl : (delRow ceH 7 (goneH l) n.Una).length = n.Una.length * 7 := by
   simp only [delRow, List.length_append, eHh.rowLen, List.length_replicate]
   omega
 have hdt : (delRow ceH 7 (goneH l) n.Una).take ((n.Una.filter fun x => !goneH l x).length * 7) = rowC ceH (n.Una.filter fun x => !goneH l x) := by
   rw [delRow, List.take_append_of_le_length (by rw [eHh.rowLen]; omega), List.take_of_length_le (by rw [eHh.rowLen]; omega)]
 unfold ackN
 generalize (n.Una.filter fun x => !goneH l x) = W at *
 generalize delRow ceH 7 (goneH l) n.Una = D at *
 have h56 := fun (x : Nbr) H => (a56 x).up' H rfl rfl
 have hnil : W = [] ↔ W.length = 0 := List.length_eq_zero_iff.symm
 have hch := eHh.chunk W _ rfl
 have htr := eHh.rowTree W
 have hL2 := eHh.rowLen W
 obtain ⟨len, hlen⟩ : ∃ len, n.Una.length = len := ⟨_, rfl⟩
 rw [hlen] at h0 hdl hfl h49 h50
 have hpos : 0 < len * 7 := by omega
 simp
 refine ⟨_, _, .inl (by simpa [ren, ren0, ren00, grow, zN, cellsNu] using h49), by simp, ?_⟩
 simp
 refine ⟨_, _, .inl (by simpa [ren, ren0, zN, cellsNu] using h50), by simp, ?_⟩
 have k56 := h56 { n with Una := W }
 have hw : waitsN { n with Una := W } = waitsN n := rfl
 rw [hw] at k56
 by_cases c1 : W.length = 0
 case neg =>
   have c1' : ¬ W = [] := fun e => c1 (hnil.1 e)
   simp [c1, c1', hdl, hdt, hL2, hch, htr, hpos, -List.all_eq_true]
   exact fun _ _ => rfl
 · have c1' : W = [] := hnil.2 c1
   subst c1'
   generalize waitsN n = b at *
   have hc0 : chunk true ([] : List AVal) 0 7 0 = [] := rfl
   simp [hc0, hdl, hdt, hL2, hch, htr, hpos, -List.all_eq_true]
   refine ⟨_, _, .inl (by simpa using k56 _), by simp, ?_⟩
   cases b <;> simp
set_option maxHeartbeats 2000000 in
set_option maxRecDepth 10000 in
theorem a49z (n : Nbr) (ok : okN n) (hz : n.Una = []) : CFun Try.prog 49 [encN n] [] (.agg (cellsNu n (.sl 7 [] .full))) [] := by
 refine CFun.intro (tr := []) (fz := []) (n := 20) (rs := [.cell 2 38]) Try.func49 rfl (by kernel_rfl) rfl rfl mixed (by kernel_rfl) (by simp) (by simp) ?_
 have hl1 := ok.lst
 have hl2 := ok.sent
 have hl3 := ok.req
 have k1 := fun H => (ch_row n.Lst (by omega)).up' H rfl rfl
 have k2 := fun H => (ch_row n.Sent (by omega)).up' H rfl rfl
 have k3 := fun H => (ch_row n.Req (by omega)).up' H rfl rfl
 have k4 := fun H => ch_cl0.up' H rfl rfl
 unfold cellsNu
 simp [hz]
 refine ⟨_, _, .inl (k1 _), by simp, ?_⟩
 simp
 refine ⟨_, _, .inl (k2 _), by simp, ?_⟩
 simp
 refine ⟨_, _, .inl (k3 _), by simp, ?_⟩
 simp
 refine ⟨_, _, .inl (k4 _), by simp, ?_⟩
 simp
set_option maxHeartbeats 8000000 in
set_option maxRecDepth 10000 in
theorem a16z (n : Nbr) (ok : okN n) (hz : n.Una = []) (l : List Hdr) (hl : l.length < 8796093022208) : CFun Try.prog 16 [encN n, .sl 7 (l.map encH) .sh] [] (encN (ackN n l)) [] := by
 refine CFun.intro (tr := [3000003000002]) (fz := []) (n := 23) (rs := [.cell 4 38]) Try.func16 rfl (by kernel_rfl) rfl rfl mixed (by kernel_rfl) (by simp) (by simp) ?_
 have h49 := (a49z n ok hz).up' [cellsN n, [.sl 7 (l.map encH) .sh], zN] rfl rfl
 have h50 := (dh_del0 51 [] [.iptr [.sl 7 (l.map encH) .sh] 0] rfl rfl (goneH l) (fun x => a51 l hl x)).up' [cellsNu n (.sl 7 [] .full), [], zN] rfl rfl
 have k56 := fun H => (a56 n).up' H rfl rfl
 have hW : (n.Una.filter fun u => !goneH l u) = [] := by rw [hz]; rfl
 unfold ackN
 rw [hW]
 generalize waitsN n = b at *
 simp
 refine ⟨_, _, .inl (by simpa [zN] using h49), by simp, ?_⟩
 simp [cellsNu]
 refine ⟨_, _, .inl (by simpa [zN, cellsNu] using h50), by simp, ?_⟩
 simp
 refine ⟨_, _, .inl ((k56 _).wk _ (by simp [noid, noid0]) (by simp [hz])), by simp, ?_⟩
 cases b <;> simp [hz]
theorem a16 (n : Nbr) (ok : okN n) (l : List Hdr) (hl : l.length < 8796093022208) : CFun Try.prog 16 [encN n, .sl 7 (l.map encH) .sh] [] (encN (ackN n l)) [] := by
 by_cases hz : n.Una = []
 · exact a16z n ok hz l hl
 · exact a16r n ok hz l hl
end Go.Proofs.Ythonenmafbpbkaa

/- Acknowledgements: the reference's Ack, by the program; the law FloodAcks. -/
namespace Go.Proofs.Ythonenmafbpbkaa
open Go Go.Am
set_option maxHeartbeats 1000000 in
set_option maxRecDepth 10000 in
theorem a58 (n : Nbr) : CFun Try.prog 58 [encN n] [] (.bool (waitsN n)) [] := by
 refine CFun.intro (tr := []) (fz := []) (n := 20) (rs := [.tmp 2]) Try.func58 rfl (by kernel_rfl) rfl rfl mixed (by kernel_rfl) (by simp) (by simp) ?_
 unfold waitsN
 by_cases h3 : n.State = 3
 · simp [h3]
 by_cases h4 : n.State = 4
 · cases hm : n.Master <;> simp [h4, hm]
 by_cases h5 : n.State = 5
 · simp [h5]
 · simp [h3, h4, h5]
theorem key_ne {q k : LKey} (hb : ¬ q = k) : ¬ (q.Ty = k.Ty ∧ q.ID = k.ID ∧ q.Len = k.Len ∧ q.Router = k.Router) := by
 rintro ⟨r1, r2, r3, r4⟩
 cases q; cases k; simp_all
set_option maxHeartbeats 8000000 in
set_option maxRecDepth 10000 in
theorem a17 (n : Nbr) (m : Nat) (hm : n.Una.length = m) (hm2 : m * 56 ≤ 140737488351232) (hnA : ∀ x ∈ n.Una, inI x.Age) (l : List Hdr) (k : Nat) (hk : l.length = k) (hl : k < 8796093022208) (hlA : ∀ x ∈ l, inI x.Age) : CFun Try.prog 17 [encN n, .sl 7 (l.map encH) .sh] [] (encN (ackN n l)) [] := by
 refine CFun.intro (tr := [48]) (fz := []) (n := 64) (rs := [.cell 4 38]) Try.func17 rfl (by kernel_rfl) rfl rfl mixed (by kernel_rfl) (by simp) (by simp) ?_
 obtain ⟨W, hW⟩ : ∃ W, W = n.Una.filter (fun u => !goneH l u) := ⟨_, rfl⟩
 have e : ackN n l = { n with Una := W, Rsd := if W = [] ∧ waitsN n = false then 0 else n.Rsd } := by rw [hW]; rfl
 rw [e]
 clear e
 simp
 refine LoopK.intro (tr := [48]) mixed (by kernel_rfl) (fun s : Nat × List Hdr => [(1, .sl 7 (l.map encH) .sh), (2, .ptr 0 0), (4, .ptr 1 0), (5, .sl 7 (s.2.map encH) .own), (6, .int .i64 s.1)]) (fun _ => [cellsN n, zN])
   (fun s => s.1 ≤ m ∧ s.2.length ≤ s.1 ∧ W = s.2 ++ (n.Una.drop s.1).filter (fun u => !goneH l u)) (fun s => m - s.1) (0, []) ?_ ?_ ?_
 · exact ⟨Nat.zero_le _, Nat.le_refl _, by simpa using hW⟩
 · simp [zN]
 rintro ⟨i, acc⟩ ⟨i1, i2, i3⟩
 simp only at i1 i2 i3 ⊢
 by_cases hi : i < m
 · obtain ⟨u, hu, hd⟩ := get_drop (l := n.Una) (i := i) (by omega)
   rw [hd] at i3
   simp only [List.filter_cons] at i3
   have huA := hnA u (List.mem_of_getElem? hu)
   have w1 : IntKind.i64.wrap ((i : Int) + 1) = i + 1 := wrap_in (by omega)
   have s1 : acc.length ≤ 140737488355327 := by omega
   have s2 : (acc.length + 1) * 56 ≤ 140737488355328 := by omega
   have ku := fun H => (c26 u).up' H rfl rfl
   simp [hi, hm, hu, gE hu]
   refine LoopK.intro (tr := [48]) mixed (by kernel_rfl) (fun s : Nat × Bool => [(1, .sl 7 (l.map encH) .sh), (2, .ptr 0 0), (4, .ptr 1 0), (5, .sl 7 (acc.map encH) .own), (6, .int .i64 i), (7, .ptr 2 0), (8, .bool s.2), (9, .int .i64 s.1)]) (fun _ => [cellsN n, zN, cellsH u])
     (fun s => s.1 ≤ k ∧ goneH l u = (s.2 || (l.drop s.1).any (fun h => decide (keyH u = keyH h) && decide (cmpH u h = 0)))) (fun s => k - s.1) (0, false) ?_ ?_ ?_
   · exact ⟨Nat.zero_le _, by simp [goneH]⟩
   · simp [zN]
   rintro ⟨j, b⟩ ⟨j1, j2⟩
   simp only at j1 j2 ⊢
   by_cases hj : j < k
   · obtain ⟨h, hh, hd2⟩ := get_drop (l := l) (i := j) (by omega)
     rw [hd2] at j2
     simp only [List.any_cons] at j2
     have w2 : IntKind.i64.wrap ((j : Int) + 1) = j + 1 := wrap_in (by omega)
     have kh := fun H => (c26 h).up' H rfl rfl
     have kc := fun H => (c17 h u (hlA h (List.mem_of_getElem? hh)) huA).up' H rfl rfl
     have hf := cmpH_flip h u (hlA h (List.mem_of_getElem? hh)) huA
     have hky := keyY_iff (keyH h) (keyH u)
     by_cases hb : keyH h = keyH u
     · have hb2 : keyH u = keyH h := hb.symm
       by_cases hc : cmpH h u = 0
       · have hc2 := hf.1 hc
         have hg : goneH l u = true := by rw [j2, decide_eq_true hb2, decide_eq_true hc2]; simp
         rw [hc] at kc
         rw [hb] at kh
         generalize keyH u = q at *
         simp [hj, hk, hh, gE hh, -Bool.exists_bool]
         refine ⟨_, _, .inl (by simpa using kh _), by simp, ?_⟩
         simp [-Bool.exists_bool]
         refine ⟨_, _, .inl (by simpa using ku _), by simp, ?_⟩
         simp [hj, hk, hh, gE hh, -Bool.exists_bool]
         refine ⟨_, _, .inl (by simpa using kc _), by simp, ?_⟩
         simp [w2, -Bool.exists_bool]
         exact ⟨j + 1, true, ⟨by omega, by rw [hg]; simp⟩, by omega, by simp [zN]⟩
       · have hc2 : ¬ cmpH u h = 0 := fun e => hc (hf.2 e)
         rw [decide_eq_false hc2, Bool.and_false, Bool.false_or] at j2
         rw [hb] at kh
         generalize cmpH h u = c at *
         generalize keyH u = q at *
         simp [hj, hk, hh, gE hh, -Bool.exists_bool]
         refine ⟨_, _, .inl (by simpa using kh _), by simp, ?_⟩
         simp [-Bool.exists_bool]
         refine ⟨_, _, .inl (by simpa using ku _), by simp, ?_⟩
         simp [hj, hk, hh, gE hh, -Bool.exists_bool]
         refine ⟨_, _, .inl (by simpa using kc _), by simp, ?_⟩
         simp [hc, w2, -Bool.exists_bool]
         exact ⟨j + 1, b, ⟨by omega, j2⟩, by omega, by simp [zN]⟩
     · have hb2 : ¬ keyH u = keyH h := fun e => hb e.symm
       rw [decide_eq_false hb2, Bool.false_and, Bool.false_or] at j2
       have hk2 := key_ne hb
       generalize keyH u = q at *
       generalize keyH h = q2 at *
       simp [hj, hk, hh, gE hh, -Bool.exists_bool]
       refine ⟨_, _, .inl (by simpa using kh _), by simp, ?_⟩
       simp [-Bool.exists_bool]
       refine ⟨_, _, .inl (by simpa using ku _), by simp, ?_⟩
       simp [hk2, w2, -Bool.exists_bool]
       exact ⟨j + 1, b, ⟨by omega, j2⟩, by omega, by simp [zN]⟩
   · rw [List.drop_eq_nil_of_le (by omega)] at j2
     simp only [List.any_nil, Bool.or_false] at j2
     subst j2
     generalize goneH l u = b at *
     cases b with
     | true =>
       simp only [Bool.not_true, Bool.false_eq_true, if_false] at i3
       simp [hj, hk, w1]
       exact ⟨i + 1, acc, ⟨by omega, by omega, i3⟩, by omega, by simp [zN]⟩
     | false =>
       simp only [Bool.not_false, if_true] at i3
       simp [hj, hk, w1, s1, s2]
       exact ⟨i + 1, acc ++ [u], ⟨by omega, by simp; omega, by simpa using i3⟩, by omega, by simp [zN]⟩
 · rw [List.drop_eq_nil_of_le (by omega), List.filter_nil, List.append_nil] at i3
   subst i3
   have k58 := fun H => (a58 { n with Una := W }).up' H rfl rfl
   have hw : waitsN { n with Una := W } = waitsN n := rfl
   rw [hw] at k58
   generalize waitsN n = b at *
   have hnil : W = [] ↔ W.length = 0 := List.length_eq_zero_iff.symm
   by_cases c1 : W = []
   · subst c1
     simp [hi, hm]
     refine ⟨_, _, .inl (by simpa using k58 _), by simp, ?_⟩
     cases b <;> simp [zN]
   · have c2 : ¬ W.length = 0 := fun e => c1 (hnil.2 e)
     simp [hi, hm, c1, c2, zN]
set_option maxHeartbeats 4000000 in
set_option maxRecDepth 10000 in
theorem a4 (n : Nbr) (ok : okN n) (l : List Hdr) (hl : l.length < 8796093022208) (hlA : ∀ x ∈ l, inI x.Age) : CFun Try.prog 4 [encN n, .sl 7 (l.map encH) .sh] [] (.bool true) [] := by
 refine CFun.intro (tr := []) (fz := []) (n := 15) (rs := [.tmp 4]) Try.func4 rfl (by kernel_rfl) rfl rfl mixed (by kernel_rfl) (by simp) (by simp) ?_
 have h1 := ok.lst
 have h2 := ok.sent
 have h3 := ok.req
 have h4 := ok.una
 have hfl := List.length_filter_le (fun x => !goneH l x) n.Una
 have k16 := fun H => (a16 n ok l hl).up' H rfl rfl
 have k17 := fun H => (a17 n _ rfl h4 (fun x hx => (ok.huna x hx).2.2.2.2.2.1) l _ rfl hl hlA).up' H rfl rfl
 have k15 := fun H => (x12 (ackN n l) (by simp only [ackN]; omega) (by simp only [ackN]; omega) (by simp only [ackN]; omega) (by simp only [ackN]; omega)).up' H rfl rfl
 have k10 := fun H => f10.up' H rfl rfl
 generalize ackN n l = a at *
 simp
 refine ⟨_, _, .inl (by simpa using k16 _), by simp, ?_⟩
 simp
 refine ⟨_, _, .inl (by simpa using k17 _), by simp, ?_⟩
 simp
 refine ⟨_, _, .inl (by simpa using k15 _), by simp, ?_⟩
 simp
 refine ⟨_, _, .inl (by simpa using k10 _), by simp, ?_⟩
 simp
end Go.Proofs.Ythonenmafbpbkaa

/- What is due; what is waited for: the program's Due and the reference's. -/
namespace Go.Proofs.Ythonenmafbpbkaa
open Go Go.Am
def dueN (n : Nbr) (now : Int) : Nbr × List Hdr := if n.Rsd = 0 ∨ now < n.Rsd ∨ n.Una = [] then (n, []) else ({ n with Rsd := now + 5 }, n.Una)
@[simp] def encDu (q : Nbr × List Hdr) : AVal := .tup [encN q.1, .sl 7 (q.2.map encH) .sh]
set_option maxHeartbeats 4000000 in
set_option maxRecDepth 10000 in
theorem e18 (n : Nbr) (ok : okN n) (now : Int) (hw : inI (now + 5)) : CFun Try.prog 18 [encN n, .int .i64 now] [] (encDu (dueN n now)) [] := by
 refine CFun.intro (tr := []) (fz := []) (n := 31) (rs := [.cell 4 38, .tmp 5]) Try.func18 rfl (by kernel_rfl) rfl rfl mixed (by kernel_rfl) (by simp) (by simp) ?_
 have k49 := fun H => (a49 n ok.lst ok.sent ok.req ok.una).up' H rfl rfl
 have k59 := fun H => (ch_row n.Una (by have := ok.una; omega)).up' H rfl rfl
 have w1 : IntKind.i64.wrap (now + 5) = now + 5 := wrap_in hw
 have hnil : n.Una = [] ↔ n.Una.length = 0 := List.length_eq_zero_iff.symm
 unfold dueN
 by_cases c1 : n.Rsd = 0
 · simp [c1]
   refine ⟨_, _, .inl (by simpa [c1] using k49 _), by simp, ?_⟩
   simp [c1]
 by_cases c2 : now < n.Rsd
 · simp [c1, c2]
   refine ⟨_, _, .inl (by simpa using k49 _), by simp, ?_⟩
   simp [c1, c2]
 by_cases c3 : n.Una.length = 0
 · have c4 := hnil.2 c3
   simp [c1, c2, c4]
   refine ⟨_, _, .inl (by simpa [c4] using k49 _), by simp, ?_⟩
   simp [c1, c2, c4]
 · have c4 : ¬ n.Una = [] := fun e => c3 (hnil.1 e)
   simp [c1, c2, c4]
   refine ⟨_, _, .inl (by simpa using k49 _), by simp, ?_⟩
   simp [c1, c2, c3, c4, w1]
   refine ⟨_, _, .inl (by simpa using k59 _), by simp, ?_⟩
   simp
set_option maxHeartbeats 4000000 in
set_option maxRecDepth 10000 in
theorem e19 (n : Nbr) (ok : okN n) (now : Int) (hw : inI (now + 5)) : CFun Try.prog 19 [encN n, .int .i64 now] [] (encDu (dueN n now)) [] := by
 refine CFun.intro (tr := []) (fz := []) (n := 30) (rs := [.cell 4 38, .tmp 5]) Try.func19 rfl (by kernel_rfl) rfl rfl mixed (by kernel_rfl) (by simp) (by simp) ?_
 have hu := ok.una
 have w1 : IntKind.i64.wrap (now + 5) = now + 5 := wrap_in hw
 have hnil : n.Una = [] ↔ n.Una.length = 0 := List.length_eq_zero_iff.symm
 have s1 : n.Una.length * 56 ≤ 140737488355328 := by omega
 have s2 : n.Una.length ≤ 140737488355328 := by omega
 unfold dueN
 by_cases c1 : n.Rsd = 0
 · simp [c1]
 by_cases c2 : now < n.Rsd
 · simp [c1, c2]
 by_cases c3 : n.Una.length = 0
 · have c4 := hnil.2 c3
   simp [c1, c2, c4]
 · have c4 : ¬ n.Una = [] := fun e => c3 (hnil.1 e)
   simp [c1, c2, c3, c4, w1, s1, s2]
end Go.Proofs.Ythonenmafbpbkaa

/- What is waited for: Waiting, by the program and the reference. -/
namespace Go.Proofs.Ythonenmafbpbkaa
open Go Go.Am
structure Ifs where
  Kind : Int
  C1 : Int
  C2 : Int
  Area : Int
  C4 : Int
  C5 : Int
  C6 : Int
  C7 : Int
  C8 : Int
  Up : Bool
  DR : Int
  BDR : Int
  T1 : Int
  T2 : Int
  Nb : List Nbr
@[simp] def cellsIx (s : Ifs) (x : AVal) : List AVal := [.int .i64 s.Kind, .int .u32 s.C1, .int .i64 s.C2, .int .u32 s.Area, .int .u32 s.C4, .int .i64 s.C5, .int .i64 s.C6, .int .i64 s.C7, .int .i64 s.C8, .bool s.Up, .int .u32 s.DR, .int .u32 s.BDR, .int .i64 s.T1, .int .i64 s.T2, x]
@[simp] def cellsI (s : Ifs) : List AVal := cellsIx s (.sl 15 (s.Nb.map encN) .sh)
@[simp] def encIf (s : Ifs) : AVal := .agg (cellsI s)
@[simp] theorem awp_range {P : Program} {tr : List Nat} {n m : Nat} {g : Operand} {ps : Array Tmp} {asg body : Code} {Q : APost} {s : ASt} : awp P tr n m (.rangeFunc g ps asg body) Q s = RangeK P n m g ps asg body Q s := Eq.trans rfl rfl
set_option maxHeartbeats 2000000 in
set_option maxRecDepth 10000 in
theorem e39 (cs : List AVal) : CFun Try.prog 39 [.iptr cs 0] [] (.fn 78 [] [.ptr 0 0]) [[.iptr cs 0]] := by
 refine CFun.intro (tr := []) (fz := []) (n := 4) (rs := [.tmp 2]) Try.func39 rfl (by kernel_rfl) rfl rfl mixed (by kernel_rfl) (by simp) (by simp) ?_
 simp
set_option maxHeartbeats 2000000 in
set_option maxRecDepth 10000 in
theorem e60 (k : LKey) (u : Hdr) : CFun Try.prog 60 [encH u, .ptr 0 0] [cellsY k] (.bool (hasKH k u)) [cellsY k] := by
 refine CFun.intro (tr := []) (fz := []) (n := 8) (rs := [.tmp 3]) Try.func60 rfl (by kernel_rfl) rfl rfl mixed (by kernel_rfl) (by simp) (by simp) ?_
 have k1 := fun H => (c25 u).up' H rfl rfl
 have hh : hasKH k u = decide (keyH u = k) := rfl
 rw [hh]
 generalize keyH u = q at *
 clear hh
 simp
 refine ⟨_, _, .inl (by simpa using k1 _), by simp, ?_⟩
 by_cases hb : q = k
 · subst hb
   simp
 · have hk2 := key_ne hb
   simp [hk2, hb]
   exact fun a b c d => hk2 ⟨a, b, c, d⟩
set_option maxHeartbeats 2000000 in
set_option maxRecDepth 10000 in
theorem e52 (l : List Hdr) (hl : l.length < 8796093022208) (k : LKey) : CFun Try.prog 52 [.sl 7 (l.map encH) .sh, .fn 60 [] [.ptr 0 0]] [cellsY k] (.bool (l.any (hasKH k))) [cellsY k] := by
 refine CFun.intro (tr := []) (fz := []) (n := 9) (rs := [.tmp 4]) Try.func52 rfl (by kernel_rfl) rfl rfl mixed (by kernel_rfl) (by simp) (by simp) ?_
 have h := ih_ix l _ rfl hl (hasKH k) 60 [] [.ptr 0 0] [cellsY k] (by simp [low, low0]) (by simp) (fun x _ => e60 k x)
 rw [idxL_any _ _ 0]
 generalize idxL (hasKH k) l 0 = q at h
 simp
 refine ⟨_, _, .inl h, by simp, ?_⟩
 simp
def waitB (k : LKey) (n : Nbr) : Bool := n.Una.any (hasKH k)
def waitL (l : List Ifs) (k : LKey) : Bool := l.any fun s => s.Nb.any (waitB k)
set_option maxHeartbeats 8000000 in
set_option maxRecDepth 10000 in
theorem e21 (l : List Ifs) (m : Nat) (hm : l.length = m) (hm2 : m < 8796093022208) (hl : ∀ s ∈ l, s.Nb.length < 8796093022208 ∧ ∀ n ∈ s.Nb, n.Una.length < 8796093022208) (k : LKey) : CFun Try.prog 21 [.sl 15 (l.map encIf) .sh, encY k] [] (.bool (waitL l k)) [] := by
 refine CFun.intro (tr := []) (fz := []) (n := 24) (rs := [.cell 4 4]) Try.func21 rfl (by kernel_rfl) rfl rfl mixed (by kernel_rfl) (by simp) (by simp) ?_
 obtain ⟨W, hW⟩ : ∃ W, W = waitL l k := ⟨_, rfl⟩
 rw [← hW]
 simp [hm]
 refine LoopK.intro (tr := []) mixed (by kernel_rfl) (fun i : Nat => [(0, .sl 15 (l.map encIf) .sh), (3, .ptr 0 0), (4, .ptr 1 0), (7, .sl 15 (l.map encIf) .sh), (8, .int .i64 m), (9, .int .i64 i)]) (fun _ => [cellsY k, [.bool false]])
   (fun i => i ≤ m ∧ W = (l.drop i).any fun s => s.Nb.any (waitB k)) (fun i => m - i) 0 ?_ ?_ ?_
 · exact ⟨Nat.zero_le _, by simpa [waitL] using hW⟩
 · simp
 rintro i ⟨i1, i2⟩
 by_cases hi : i < m
 case neg =>
   rw [List.drop_eq_nil_of_le (by omega)] at i2
   subst i2
   simp [hi]
 obtain ⟨s, hs, hd⟩ := get_drop (l := l) (i := i) (by omega)
 rw [hd] at i2
 simp only [List.any_cons] at i2
 obtain ⟨g1, g2⟩ := hl s (List.mem_of_getElem? hs)
 have w1 : IntKind.i64.wrap ((i : Int) + 1) = i + 1 := wrap_in (by omega)
 have k39 : CFun Try.prog 39 [.iptr (cellsI s) 0] [cellsY k, [.bool false]] (.fn 78 [] [.ptr 2 0]) [cellsY k, [.bool false], [.iptr (cellsI s) 0]] := (e39 (cellsI s)).upAll [cellsY k, [.bool false]] (by simp [noid, noid0]) rfl rfl
 simp [hi, hm, hs, gE hs]
 refine ⟨_, _, .inl (by simpa using k39), by simp, ?_⟩
 simp
 refine RangeK.introG (tr := []) mixed (by kernel_rfl) (by kernel_rfl) rfl rfl (p := 16) (by simp) iter78 ⟨_, Try.func78, rfl, rfl⟩ (idb := 2) (len := s.Nb.length) (by omega) (by simp) _ (fun H => H[2]? = some [.iptr (cellsI s) 0]) (by simp) (SrcOk.data (xs := s.Nb.map encN) (off := 0) (c := 14) (cs := cellsI s) (by simp) rfl)
   (fun _ : Unit => [cellsY k, [.bool false], [.iptr (cellsI s) 0]]) (fun j _ => j ≤ s.Nb.length ∧ s.Nb.any (waitB k) = (s.Nb.drop j).any (waitB k)) () ⟨Nat.zero_le _, rfl⟩ (by simp) (by simp) ?_ ?_
 · rintro j ⟨⟩ ⟨j1, j2⟩ hj
   obtain ⟨n, hn, hnd⟩ := get_drop (l := s.Nb) (i := j) hj
   rw [hnd] at j2
   simp only [List.any_cons] at j2
   have k52 : CFun Try.prog 52 [.sl 7 (n.Una.map encH) .sh, .fn 60 [] [.ptr 0 0]] [cellsY k, [.bool false], [.iptr (cellsI s) 0]] (.bool (waitB k n)) [cellsY k, [.bool false], [.iptr (cellsI s) 0]] := by
     simpa [waitB, ren, ren0] using (e52 n.Una (g2 n (List.mem_of_getElem? hn)) k).at (H := [cellsY k, [.bool false], [.iptr (cellsI s) 0]]) (id := 0) rfl (by simp [noid0]) (by simp [noid0]) (by simp [low, low0]) (by simp [low, low0])
   have gN := gE hn
   cases hb : waitB k n with
   | true =>
     rw [hb] at k52 j2
     have hWt : W = true := by rw [i2, j2]; rfl
     clear i2 j2 hW
     subst hWt
     simp [asgPost, hn]
     refine ⟨_, _, .inl (by simpa using k52), by simp, ?_⟩
     simp [roundPostA]
     exact ⟨[cellsY k, [.bool true], [.iptr (cellsI s) 0]], by simp, by simp, by simp⟩
   | false =>
     rw [hb] at k52 j2
     simp [asgPost, hn]
     refine ⟨_, _, .inl (by simpa using k52), by simp, ?_⟩
     simp [roundPostA]
     exact ⟨hj, j2.trans (Bool.false_or _)⟩
 · rintro ⟨⟩ ⟨j1, j2⟩
   simp only [List.drop_length, List.any_nil] at j2
   rw [j2, Bool.false_or] at i2
   simp
   exact ⟨i + 1, ⟨hi, i2⟩, by omega, w1⟩
end Go.Proofs.Ythonenmafbpbkaa
