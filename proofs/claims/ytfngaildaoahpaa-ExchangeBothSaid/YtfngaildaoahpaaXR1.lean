/- The exchange of databases: records. -/
import Derived.Test.YtfngaildaoahpaaXC2
import Derived.Test.YtfngaildaoahpaaAmAA
import Derived.Test.YtfngaildaoahpaaXE5
set_option linter.unusedSimpArgs false
set_option linter.unusedVariables false
namespace Go.Proofs.Ytfngaildaoahpaa
open Go Go.Am
def recL (db : List Lsa) (hs : List Hdr) (l : List Hdr) : List Hdr := hs.foldl (fun l h => if cmpD db h = 1 then putH h l else l) l
def recordN (n : Nbr) (db : List Lsa) (p : Pkt) : Nbr := { n with Req := recL db p.Heads n.Req, More := p.More }
def youngD (db : List Lsa) : List Hdr := (db.map Lsa.H).filter fun h => decide (h.Age < 3600)
end Go.Proofs.Ytfngaildaoahpaa

/- Rows of headers: the library's functions. -/
namespace Go.Proofs.Ytfngaildaoahpaa
open Go Go.Am
def ceH (h : Hdr) : List AVal := cellsH h
theorem eHh : Enc ceH 7 where
  pos := by omega
  len x := rfl
  dis x := rfl
  tree x := by simp [AVal.tree, ceH]
def zH : List AVal := [.int .i64 0, .int .u32 0, .int .i64 0, .int .u32 0, .int .i64 0, .int .i64 0, .int .i64 0]
set_option maxHeartbeats 4000000 in
set_option maxRecDepth 10000 in
theorem ch_cl (l : List Hdr) (s1 : l.length * 56 ≤ 140737488355328) : CFun Try.prog 70 [.sl 7 (l.map fun x => AVal.agg (ceH x)) .sh] [] (.sl 7 (l.map fun x => AVal.agg (ceH x)) .sh) [] := by
 refine CFun.intro (tr := []) (fz := []) (n := 8) (rs := [.tmp 2]) Try.func70 rfl (by kernel_rfl) rfl rfl mixed (by kernel_rfl) (by simp) (by simp) ?_
 have s2 : l.length ≤ 140737488355328 := by omega
 cases l with
 | nil => simp
 | cons x xs =>
   simp only [List.length_cons] at s1 s2
   simp [s1, s2]
set_option maxHeartbeats 4000000 in
set_option maxRecDepth 10000 in
theorem ch_clr (l : List Hdr) (hne : l ≠ []) (s1 : l.length * 56 ≤ 140737488355328) : CFun Try.prog 70 [.sl 7 (l.map fun x => AVal.agg (ceH x)) .sh] [] (.osl 0 0 l.length none 7) [rowC ceH l] := by
 refine CFun.intro (tr := [100007]) (fz := []) (n := 8) (rs := [.tmp 2]) Try.func70 rfl (by kernel_rfl) rfl rfl mixed (by kernel_rfl) (by simp) (by simp) ?_
 have s2 : l.length ≤ 140737488355328 := by omega
 have s3 : 0 < l.length := List.length_pos_iff.2 hne
 have s4 : (l.map fun x => AVal.agg (ceH x)).isEmpty = false := by cases l <;> simp_all
 have s5 := rowC_map (ce := ceH) l
 simp [hne, s1, s2, s3, s4]
 rw [s5, (eHh).rowDis]
 exact (eHh).rowLe 1 l
set_option maxHeartbeats 4000000 in
set_option maxRecDepth 10000 in
theorem ch_cl0 : CFun Try.prog 70 [.sl 7 [] .sh] [] (.sl 7 [] .full) [] := by
 refine CFun.intro (tr := [100007]) (fz := []) (n := 8) (rs := [.tmp 2]) Try.func70 rfl (by kernel_rfl) rfl rfl mixed (by kernel_rfl) (by simp) (by simp) ?_
 simp
set_option maxHeartbeats 4000000 in
set_option maxRecDepth 10000 in
theorem ih_ix (l : List Hdr) (n : Nat) (hn : l.length = n) (hlen : n < 8796093022208) (p : Hdr → Bool) (f : FuncId) (fs cs : List AVal) (H : List (List AVal)) (hf : low H.length (.fn f fs cs) = true) (hH : LeBoxes H.length H H)
   (hp : ∀ x ∈ l, CFun Try.prog f (fs ++ [.agg (ceH x)] ++ cs) H (.bool (p x)) H) : CFun Try.prog 86 [.sl 7 (l.map fun x => AVal.agg (ceH x)) .sh, .fn f fs cs] H (.int .i64 (idxL p l 0)) H := by
 refine CFun.intro (tr := []) (fz := []) (n := 19) (rs := [.tmp 4]) Try.func86 rfl (by kernel_rfl) rfl rfl mixed (by kernel_rfl) (by simp) (by simp) ?_
 simp
 refine LoopK.intro (tr := []) mixed (by kernel_rfl) (fun i : Nat => [(0, .sl 7 (l.map fun x => AVal.agg (ceH x)) .sh), (1, .fn f fs cs), (7, .int .i64 n), (8, .int .i64 i)]) (fun _ => H) (fun i => i ≤ n ∧ idxL p l 0 = idxL p (l.drop i) i) (fun i => n - i) 0 ?_ ?_ ?_
 · simp
 · simp [hn, hH]
   simpa [low] using hf
 · rintro i ⟨h1, h2⟩
   by_cases hi : i < n
   · obtain ⟨x, hx, hd⟩ := get_drop (l := l) (i := i) (by omega)
     have hpx := hp x (List.mem_of_getElem? hx)
     rw [hd] at h2
     clear hd hn
     have w1 : IntKind.i64.wrap ((i : Int) + 1) = i + 1 := wrap_in (by omega)
     have hl := (eHh).len x
     have ht := List.all_eq_true.1 ((eHh).tree x)
     have hdis := (eHh).dis x
     have htk : (List.take 7 (ceH x)) = ceH x := List.take_of_length_le (by omega)
     simp [hi, hx, hl, ht, hdis, htk]
     refine ⟨_, _, .inl (by simpa [cargs] using hpx), by simp, ?_⟩
     simp only [idxL] at h2
     by_cases hpb : p x = true
     · simp [hpb, hH, h2]
     · rw [if_neg hpb] at h2
       simp [hpb, w1, hH]
       refine ⟨i + 1, ⟨by omega, h2⟩, by omega, ?_⟩
       simp
       simpa [low] using hf
   · have : i = n := by omega
     subst this
     rw [List.drop_eq_nil_of_le (by omega)] at h2
     simp [h2, idxL, hH]
set_option maxHeartbeats 4000000 in
set_option maxRecDepth 10000 in
theorem ih_ixr (l : List Hdr) (rest : List AVal) (n : Nat) (hn : l.length = n) (hlen : n < 8796093022208) (p : Hdr → Bool) (f : FuncId) (fs cs : List AVal) (H : List (List AVal)) (id : Nat) (cap : Option Nat) (hid : H[id]? = some (rowC ceH l ++ rest))
   (hf : low H.length (.fn f fs cs) = true) (hH : LeBoxes H.length H H)
   (hp : ∀ x ∈ l, CFun Try.prog f (fs ++ [.agg (ceH x)] ++ cs) H (.bool (p x)) H) : CFun Try.prog 86 [.osl id 0 n cap 7, .fn f fs cs] H (.int .i64 (idxL p l 0)) H := by
 have hidl : id < H.length := (List.getElem?_eq_some_iff.1 hid).1
 refine CFun.intro (tr := []) (fz := []) (n := 19) (rs := [.tmp 4]) Try.func86 rfl (by kernel_rfl) rfl rfl mixed (by kernel_rfl) (by simp) (by simp) ?_
 simp
 refine LoopK.intro (tr := []) mixed (by kernel_rfl) (fun i : Nat => [(0, .osl id 0 n cap 7), (1, .fn f fs cs), (7, .int .i64 n), (8, .int .i64 i)]) (fun _ => H) (fun i => i ≤ n ∧ idxL p l 0 = idxL p (l.drop i) i) (fun i => n - i) 0 ?_ ?_ ?_
 · simp
 · simp [hH, hidl]
   simpa [low] using hf
 · rintro i ⟨h1, h2⟩
   by_cases hi : i < n
   · obtain ⟨x, hx, hd⟩ := get_drop (l := l) (i := i) (by omega)
     have hpx := hp x (List.mem_of_getElem? hx)
     have hload := (eHh).load hx rest
     rw [hd] at h2
     clear hd hn
     have w1 : IntKind.i64.wrap ((i : Int) + 1) = i + 1 := wrap_in (by omega)
     simp [hi, hid, hload, -aload]
     refine ⟨_, _, .inl (by simpa [cargs] using hpx), by simp, ?_⟩
     simp only [idxL] at h2
     by_cases hpb : p x = true
     · simp [hpb, hH, h2]
     · rw [if_neg hpb] at h2
       simp [hpb, w1, hH]
       refine ⟨i + 1, ⟨by omega, h2⟩, by omega, ?_⟩
       simp [hidl]
       simpa [low] using hf
   · have : i = n := by omega
     subst this
     rw [List.drop_eq_nil_of_le (by omega)] at h2
     simp [h2, idxL, hH]
set_option maxHeartbeats 4000000 in
set_option maxRecDepth 10000 in
theorem dh_del (l : List Hdr) (n c : Nat) (hn : l.length = n) (hc : n ≤ c) (hlen : n < 8796093022208) (p : Hdr → Bool) (f : FuncId) (fs cs : List AVal) (hfs : fs.all noid0 = true) (hcs : cs.all noid0 = true)
   (hp : ∀ x, CFun Try.prog f (fs ++ [.agg (ceH x)] ++ cs) [] (.bool (p x)) []) : CFun Try.prog 63 [.osl 0 0 n (some c) 7, .fn f fs cs] [rowC ceH l] (.osl 0 0 (l.filter fun x => !p x).length (some c) 7) [delRow ceH 7 p l] := by
 have n01 : ∀ y : AVal, noid0 y = true → noid y = true := by
   intro y hy
   cases y <;> first | rfl | (simp [noid0] at hy)
 have hno : ∀ x : Hdr, (fs ++ [AVal.agg (ceH x)] ++ cs).all noid = true := by
   intro x
   simp only [List.all_append, Bool.and_eq_true]
   exact ⟨⟨List.all_eq_true.2 fun y hy => n01 y (List.all_eq_true.1 hfs y hy), rfl⟩, List.all_eq_true.2 fun y hy => n01 y (List.all_eq_true.1 hcs y hy)⟩
 have hlow : ∀ k, low k (.fn f fs cs) = true := fun k => noid_low (by simp [noid, hfs, hcs])
 have flatB_le := (eHh).rowLe
 refine CFun.intro (tr := []) (fz := []) (n := 42) (rs := [.tmp 4]) Try.func63 rfl (by kernel_rfl) rfl rfl mixed (by kernel_rfl) (by simp) (by simp) ?_
 simp
 have hidx := ih_ixr l [] n hn hlen p f fs cs [rowC ceH l] 0 (some c) (by simp) (hlow _) (by simp [flatB_le]) (fun x _ => (hp x).up' _ (hno x) rfl)
 refine ⟨_, _, .inl hidx, trivial, ?_⟩
 rcases idxL_spec p l 0 with ⟨e1, e2⟩ | ⟨i, e1, e2, e3⟩
 · simp [e1, delRow, e2, hn, flatB_le]
 · have w0 : IntKind.i64.wrap ((i : Int) + 1) = i + 1 := wrap_in (by omega)
   have hne : ¬ ((i : Int) = -1) := by omega
   simp [e1, w0, hne]
   refine LoopK.intro (tr := []) mixed (by kernel_rfl) (fun q : Nat × Nat × List Hdr => [(0, .osl 0 0 n (some c) 7), (1, .fn f fs cs), (5, .int .i64 q.1), (6, .int .i64 q.2.1)]) (fun q => [rowC ceH q.2.2])
     (fun q => q.1 < q.2.1 ∧ q.2.1 ≤ n ∧ q.2.2.length = n ∧ q.2.2.take q.1 = (l.take q.2.1).filter (fun x => !p x) ∧ q.2.2.drop q.2.1 = l.drop q.2.1) (fun q => n - q.2.1) (i, i + 1, l) ?_ ?_ ?_
   · exact ⟨by simp, by simp; omega, hn, e3.symm, rfl⟩
   · simp [flatB_le]
     simpa [low] using hlow 1
   · rintro ⟨a, b, cur⟩ ⟨h1, h2, h3, h4, h5⟩
     simp only at h1 h2 h3 h4 h5
     have hal : a < cur.length := by omega
     by_cases hb : b < n
     · obtain ⟨x, hx, hd⟩ := get_drop (l := l) (i := b) (by omega)
       obtain ⟨y, hy, he⟩ := get_drop (l := cur) (i := b) (by omega)
       rw [hd, he, List.cons.injEq] at h5
       obtain ⟨rfl, h5⟩ := h5
       have hload := (eHh).load0 hy
       have hcall := (hp y).up' [rowC ceH cur, ceH y] (hno y) rfl
       have hset := (eHh).setOne0 cur a y hal
       have w1 : IntKind.i64.wrap ((b : Int) + 1) = b + 1 := wrap_in (by omega)
       have w2 : IntKind.i64.wrap ((a : Int) + 1) = a + 1 := wrap_in (by omega)
       have htk : (l.take (b + 1)).filter (fun x => !p x) = (l.take b).filter (fun x => !p x) ++ [y].filter (fun x => !p x) := by
         rw [List.take_add_one, hx]; simp
       have hlen2 := (eHh).rowLen cur
       have hl := (eHh).len y
       have ht := List.all_eq_true.1 ((eHh).tree y)
       have hdis := (eHh).dis y
       have hyk : (List.take 7 (ceH y)) = ceH y := List.take_of_length_le (by omega)
       have hle := treeCells_le 1 ((eHh).tree y)
       have hs0 : setR zH 0 (ceH y) = ceH y := rfl
       simp only [zH] at hs0
       have hl1 := (eHh).load0 (l := [y]) (i := 0) rfl
       rw [rowC_one, Nat.zero_mul] at hl1
       clear hn hd he
       by_cases hpx : p y = true
       · simp [hb, hload, hl, ht, hdis, hyk, hs0, hl1, -aload, -setR]
         refine ⟨_, _, .inl (by simpa [cargs, hdis, hyk] using hcall), by simp, ?_⟩
         simp [hpx, w1]
         refine ⟨a, b + 1, cur, ⟨by omega, by omega, h3, by rw [htk]; simp [hpx, h4], h5⟩, by omega, ?_⟩
         simp [flatB_le]
         simpa [low] using hlow 1
       · have hfit : a * 7 + 7 ≤ (rowC ceH cur).length := by omega
         simp [hb, hload, hl, ht, hdis, hyk, hs0, hl1, -aload, -setR]
         refine ⟨_, _, .inl (by simpa [cargs, hdis, hyk] using hcall), by simp, ?_⟩
         have han : a < n := by omega
         have hset' : (cur.set a y).take (a + 1) = (l.take (b + 1)).filter (fun x => !p x) := by
           rw [htk, ← h4, List.take_add_one, List.take_set_of_le (by omega)]
           simp [hal, hpx]
         simp [hpx, han, hfit, hset, hl, hl1, hdis, hyk, w1, w2, -setR, -aload]
         refine ⟨a + 1, b + 1, cur.set a y, ⟨by omega, by omega, by simpa using h3, hset', ?_⟩, by omega, ?_⟩
         · rw [List.drop_set_of_lt (by omega)]; exact h5
         · simp [flatB_le]
           simpa [low] using hlow 1
     · have hbn : b = n := by omega
       subst hbn
       have hlb : l.take b = l := List.take_of_length_le (by omega)
       rw [hlb] at h4
       have hl : (l.filter fun x => !p x).length = a := by
         rw [← h4]; simp; omega
       have hrow := (eHh).strike cur a (by omega) ((b - a) * 7) (by rw [h3]) (List.replicate ((b - a) * 7) .undef) (by simp)
       have hfl := (eHh).rowLen cur
       have hab : ¬ b - a = 0 := by omega
       have hfit : a * 7 + (b - a) * 7 ≤ (rowC ceH cur).length := by omega
       have z1 : a ≤ b := by omega
       have z2 : a ≤ c := by omega
       simp [z1, z2, hab, hfit, hrow, -setR]
       exact ⟨hl.symm, by rw [delRow, hl, hn, h4]; exact (eHh).roomLe _ _ _⟩
set_option maxHeartbeats 4000000 in
set_option maxRecDepth 10000 in
theorem dh_del0 (f : FuncId) (fs cs : List AVal) (hfs : fs.all noid0 = true) (hcs : cs.all noid0 = true)
   (p : Hdr → Bool) (hp : ∀ x, CFun Try.prog f (fs ++ [.agg (ceH x)] ++ cs) [] (.bool (p x)) []) : CFun Try.prog 63 [.sl 7 [] .full, .fn f fs cs] [] (.sl 7 [] .full) [] := by
 refine CFun.intro (tr := []) (fz := []) (n := 42) (rs := [.tmp 4]) Try.func63 rfl (by kernel_rfl) rfl rfl mixed (by kernel_rfl) (by simp) (by simp) ?_
 have hlow : low 0 (.fn f fs cs) = true := noid_low (by simp [noid, hfs, hcs])
 have h := ih_ix [] 0 rfl (by omega) p f fs cs [] hlow (by simp) (fun x hx => by cases hx)
 simp
 refine ⟨_, _, .inl (h.wk [.sl 7 [] .full, .fn f fs cs] (by simp) (by simp)), trivial, ?_⟩
 simp [idxL]
end Go.Proofs.Ytfngaildaoahpaa

/- The exchange of databases: what is pending, what is requested, what is sent again. -/
namespace Go.Proofs.Ytfngaildaoahpaa
open Go Go.Am
theorem ch_row (l : List Hdr) (s1 : l.length * 56 ≤ 140737488355328) : CFun Try.prog 70 [.sl 7 (l.map encH) .sh] [] (.sl 7 (l.map encH) .sh) [] := ch_cl l s1
set_option maxHeartbeats 1000000 in
set_option maxRecDepth 10000 in
theorem x59 (n : Nbr) : CFun Try.prog 59 [encN n] [] (.bool (waitsN n)) [] := by
 refine CFun.intro (tr := []) (fz := []) (n := 20) (rs := [.tmp 2]) Try.func59 rfl (by kernel_rfl) rfl rfl mixed (by kernel_rfl) (by simp) (by simp) ?_
 unfold waitsN
 by_cases h3 : n.State = 3
 · simp [h3]
 by_cases h4 : n.State = 4
 · cases hm : n.Master <;> simp [h4, hm]
 by_cases h5 : n.State = 5
 · simp [h5]
 simp [h3, h4, h5]
set_option maxHeartbeats 2000000 in
set_option maxRecDepth 10000 in
theorem x35 (n : Nbr) (hs : n.Sent.length * 56 ≤ 140737488351232) (self : Int) : CFun Try.prog 35 [encN n, .int .u32 self] [] (encPk (pendN n self)) [] := by
 refine CFun.intro (tr := [900001000017, 900002000017, 3500017]) (fz := []) (n := 30) (rs := [.cell 4 34]) Try.func35 rfl (by kernel_rfl) rfl rfl mixed (by kernel_rfl) (by simp) (by simp) ?_
 have h1 := ch_row n.Sent (by omega)
 unfold pendN
 by_cases h3 : n.State = 3
 · simp [h3, pkt0, hel0]
 simp [h3]
 refine ⟨_, h1, by simp [noid, noid0], ?_⟩
 simp [pkt0, hel0]
set_option maxHeartbeats 2000000 in
set_option maxRecDepth 10000 in
theorem x43 (n : Nbr) (h1 : n.Lst.length * 56 ≤ 140737488351232) (h2 : n.Sent.length * 56 ≤ 140737488351232) (h3 : n.Req.length * 56 ≤ 140737488351232) (h4 : n.Una.length * 56 ≤ 140737488351232) : CFun Try.prog 43 [encN n] [] (encN n) [] := by
 refine CFun.intro (tr := []) (fz := []) (n := 20) (rs := [.cell 2 26]) Try.func43 rfl (by kernel_rfl) rfl rfl mixed (by kernel_rfl) (by simp) (by simp) ?_
 have k1 := fun H => (ch_row n.Lst (by omega)).up' H rfl rfl
 have k2 := fun H => (ch_row n.Sent (by omega)).up' H rfl rfl
 have k3 := fun H => (ch_row n.Req (by omega)).up' H rfl rfl
 have k4 := fun H => (ch_row n.Una (by omega)).up' H rfl rfl
 simp
 refine ⟨_, _, .inl (k1 _), by simp, ?_⟩
 simp
 refine ⟨_, _, .inl (k2 _), by simp, ?_⟩
 simp
 refine ⟨_, _, .inl (k3 _), by simp, ?_⟩
 simp
 refine ⟨_, _, .inl (k4 _), by simp, ?_⟩
 simp
end Go.Proofs.Ytfngaildaoahpaa

/- The exchange of databases: rows of packets; what a statement asks of a neighbor. -/
namespace Go.Proofs.Ytfngaildaoahpaa
open Go Go.Am
end Go.Proofs.Ytfngaildaoahpaa

/- The exchange of databases: updates in packets of sixteen, by the reference. -/
namespace Go.Proofs.Ytfngaildaoahpaa
open Go Go.Am
theorem treeCellsW {σ : Nat → Nat} {N n : Nat} : ∀ {cs : List AVal}, cs.all AVal.tree = true → LeCellsS σ N n cs cs
 | [], _ => trivial
 | c :: cs, h => by
   simp only [List.all_cons, Bool.and_eq_true] at h
   have e : ren σ c = c := by
     have := h.1
     cases c <;> first | rfl | simp [AVal.tree] at this
   exact ⟨by rw [e]; exact LeV_refl c, tree_low h.1, tree_low h.1, treeCellsW h.2⟩
def stepU (p : List (List Lsa)) (x : Lsa) : List (List Lsa) := match p.getLast? with
 | some l => if l.length < 16 then p.dropLast ++ [l ++ [x]] else p ++ [[x]]
 | none => [[x]]
def updL (xs : List Lsa) : List (List Lsa) := xs.foldl stepU []
theorem updL_take {xs : List Lsa} {i : Nat} {x : Lsa} (h : xs[i]? = some x) : updL (xs.take (i + 1)) = stepU (updL (xs.take i)) x := by
 rw [List.take_add_one, h]
 simp [updL]
def pkU (a : Int) (l : List Lsa) : Pkt := { pkt0 with Kind := 4, Router := a, Lsas := l }
def mdU (l : List Lsa) : Am.Mode := if l.length < 16 then .own else .sh
def cellsU (a : Int) (l : List Lsa) (md : Am.Mode) : List AVal := [.int .i64 4, .int .u32 a, .int .u32 0, .int .u32 0, .int .i64 0, .int .i64 0, .int .i64 0, .int .i64 0, .int .u32 0, .int .u32 0, .sl 1 [] .sh, .int .i64 0, .bool false, .bool false, .bool false, .sl 7 [] .sh, .sl 4 [] .sh, .sl 15 (l.map encA) md]
theorem ePk : Enc cellsPk 18 := ⟨by decide, fun _ => rfl, fun _ => rfl, fun _ => rfl⟩
theorem cellsU_sh (a : Int) (l : List Lsa) : cellsU a l .sh = cellsPk (pkU a l) := rfl
theorem row_get {R : List AVal} {d : Nat} (h : R.length = d) (L : List AVal) (j : Nat) : (R ++ L)[d + j]? = L[j]? := by
 subst h
 rw [List.getElem?_append_right (by omega)]
 congr 1
 omega
theorem row_set {R : List AVal} {d : Nat} (h : R.length = d) (L : List AVal) (j : Nat) (v : AVal) : (R ++ L).set (d + j) v = R ++ L.set j v := by
 subst h
 rw [List.set_append_right _ _ (by omega)]
 congr 2
 omega
theorem LeCellsS_app {σ : Nat → Nat} {N n : Nat} {c d : List AVal} (h : LeCellsS σ N n c d) : ∀ {R : List AVal}, R.all AVal.tree = true → LeCellsS σ N n (R ++ c) (R ++ d)
 | [], _ => h
 | x :: R, hR => by
   simp only [List.all_cons, Bool.and_eq_true] at hR
   have e := treeCellsW (σ := σ) (N := N) (n := n) (cs := [x]) (by simp [hR.1])
   exact ⟨e.1, e.2.1, e.2.2.1, LeCellsS_app h hR.2⟩
theorem rowPk_sc (l : List Pkt) : (rowC cellsPk l).all (fun c => c.scalar && !c.isOwn) = true := by
 induction l with
 | nil => rfl
 | cons y l ih => rw [rowC_cons, List.all_append, ih]; rfl
def ValU (xs : List Lsa) (i : Nat) (ds : List (List Lsa)) (last : List Lsa) : Prop :=
 if i = 0 then ds = [] ∧ last = [] else updL (xs.take i) = ds ++ [last] ∧ i = 16 * ds.length + last.length ∧ 1 ≤ last.length ∧ last.length ≤ 16
theorem ValU_zero (xs : List Lsa) : ValU xs 0 [] [] := ⟨rfl, rfl⟩
theorem ValU_first {xs : List Lsa} {x : Lsa} (hx : xs[0]? = some x) : ValU xs 1 [] [x] := by
 rw [ValU, if_neg (by omega)]
 refine ⟨?_, by simp, by simp, by simp⟩
 rw [updL_take (i := 0) hx]
 simp [updL, stepU]
theorem ValU_more {xs : List Lsa} {i : Nat} {ds : List (List Lsa)} {last : List Lsa} {x : Lsa} (h : ValU xs i ds last) (hi : 0 < i) (hx : xs[i]? = some x) (hm : ¬ i % 16 = 0) : ValU xs (i + 1) ds (last ++ [x]) ∧ last.length < 16 := by
 rw [ValU, if_neg (by omega)] at h
 obtain ⟨h1, h2, h3, h4⟩ := h
 have hl : last.length < 16 := by omega
 refine ⟨?_, hl⟩
 rw [ValU, if_neg (by omega)]
 refine ⟨?_, by simp; omega, by simp, by simp; omega⟩
 rw [updL_take hx, h1]
 simp [stepU, hl]
theorem ValU_next {xs : List Lsa} {i : Nat} {ds : List (List Lsa)} {last : List Lsa} {x : Lsa} (h : ValU xs i ds last) (hi : 0 < i) (hx : xs[i]? = some x) (hm : i % 16 = 0) : ValU xs (i + 1) (ds ++ [last]) [x] ∧ ¬ last.length < 16 := by
 rw [ValU, if_neg (by omega)] at h
 obtain ⟨h1, h2, h3, h4⟩ := h
 have hl : ¬ last.length < 16 := by omega
 refine ⟨?_, hl⟩
 rw [ValU, if_neg (by omega)]
 refine ⟨?_, by simp; omega, by simp, by simp⟩
 rw [updL_take hx, h1]
 simp [stepU, hl]
theorem ValU_end {xs : List Lsa} {n : Nat} {ds : List (List Lsa)} {last : List Lsa} (h : ValU xs n ds last) (hn : xs.length = n) (h0 : 0 < n) : updL xs = ds ++ [last] ∧ n = 16 * ds.length + last.length := by
 rw [ValU, if_neg (by omega)] at h
 rw [List.take_of_length_le (by omega)] at h
 exact ⟨h.1, h.2.1⟩
end Go.Proofs.Ytfngaildaoahpaa

/- The exchange of databases: Answer, by the program. -/
namespace Go.Proofs.Ytfngaildaoahpaa
open Go Go.Am
def askL (db : List Lsa) (ks : List LKey) : List Lsa := ks.map fun k => (getD_ db k).1
def answN (db : List Lsa) (p : Pkt) : List (List Lsa) × Int :=
 if p.Kind ≠ 3 then ([], 15) else if p.Keys.all (fun k => (getD_ db k).2) = true then (updL (askL db p.Keys), 0) else ([], 6)
@[simp] def encAn (q : List (List Lsa) × Int) : AVal := .tup [.sl 18 ((q.1.map (pkU 0)).map encPk) .sh, .int .i64 q.2]
theorem rowU_facts (a : Int) (ds : List (List Lsa)) (last : List Lsa) : (rowC cellsPk (ds.map (pkU a)) ++ cellsU a last (mdU last)).length = (ds.length + 1) * 18
   ∧ (rowC cellsPk (ds.map (pkU a)) ++ cellsU a last (mdU last)).all AVal.tree = true
   ∧ chunk true (rowC cellsPk (ds.map (pkU a)) ++ cellsU a last (mdU last)) 0 18 (ds.length + 1) = (ds.map (pkU a)).map encPk ++ [encPk (pkU a last)] := by
 refine ⟨?_, ?_, ?_⟩
 · rw [List.length_append, ePk.rowLen, List.length_map]
   simp [cellsU, Nat.add_mul]
 · rw [List.all_append, ePk.rowTree]
   rfl
 · have h0 := ePk.chunk ((ds ++ [last]).map (pkU a)) (ds.length + 1) (by simp)
   have h1 : ∀ (R c d : List AVal), c.map AVal.dis = d.map AVal.dis → chunk true (R ++ c) 0 18 (ds.length + 1) = chunk true (R ++ d) 0 18 (ds.length + 1) := by
     intro R c d h
     simp only [chunk, if_pos, List.map_take, List.map_drop, List.map_append, h]
   rw [h1 _ _ (cellsU a last .sh) (by simp only [cellsU, mdU]; split <;> rfl), cellsU_sh]
   have hR : rowC cellsPk (ds.map (pkU a)) ++ cellsPk (pkU a last) = rowC cellsPk ((ds ++ [last]).map (pkU a)) := by rw [List.map_append, rowC_app, List.map_cons, List.map_nil, rowC_one]
   rw [hR, h0]
   simp [encPk]
set_option maxHeartbeats 8000000 in
set_option maxRecDepth 10000 in
theorem w24 (db : List Lsa) (hdb : db.length < 1099511627776) (ok : ∀ x ∈ db, okL x) (p : Pkt) (n : Nat) (hn : p.Keys.length = n) (hlen : n * 32 ≤ 140737488351232) (hq : ∀ i, i ≤ n → (p.Keys.take i).all (fun k => (getD_ db k).2) = true → i ≤ 2000) : CFun Try.prog 24 [.sl 15 (db.map encA) .sh, encPk p] [] (encAn (answN db p)) [] := by
 refine CFun.intro (tr := [100037, 47, 2000047, 4000047, 6000047]) (fz := [(4, 1, true)]) (n := 55) (rs := [.tmp 4, .tmp 5]) Try.func24 rfl (by kernel_rfl) rfl rfl mixed (by kernel_rfl) (by simp) (by simp) ?_
 by_cases hk : p.Kind = 3
 case neg => simp [answN, hk]
 obtain ⟨W, hW⟩ : ∃ W, W = answN db p := ⟨_, rfl⟩
 rw [← hW]
 rw [answN, if_neg (by simpa using hk)] at hW
 obtain ⟨xs, hxs⟩ : ∃ xs, xs = askL db p.Keys := ⟨_, rfl⟩
 rw [← hxs] at hW
 have hxn : xs.length = n := by rw [hxs, askL, List.length_map, hn]
 simp [hk, hn]
 refine LoopK.introS (tr := [100037, 47, 2000047, 4000047, 6000047]) mixed (by kernel_rfl)
   (fun q : Nat × List (List Lsa) × List Lsa => [(0, .sl 15 (db.map encA) .sh), (3, .ptr 0 0), (16, .sl 4 (p.Keys.map encY) .sh), (17, .int .i64 n), (18, .int .i64 q.1), (6, if q.1 = 0 then .sl 0 [] .full else .osl 1 0 (q.2.1.length + 1) none 18)])
   (fun q => if q.1 = 0 then [cellsPk p] else [cellsPk p, rowC cellsPk (q.2.1.map (pkU 0)) ++ cellsU 0 q.2.2 (mdU q.2.2), []])
   (fun q => q.1 ≤ n ∧ ValU xs q.1 q.2.1 q.2.2 ∧ (p.Keys.take q.1).all (fun k => (getD_ db k).2) = true) (fun q => n - q.1) (0, [], []) ?_ ?_ ?_
 · exact ⟨Nat.zero_le _, ValU_zero _, rfl⟩
 · simp [hk]
 rintro ⟨i, ds, last⟩ ⟨i1, i2, i3⟩
 simp only at i1 i2 i3 ⊢
 generalize hPQ : LoopPostS _ _ _ _ _ _ _ = PQ
 have hrl : (rowC cellsPk (ds.map (pkU 0))).length = ds.length * 18 := by rw [ePk.rowLen, List.length_map]
 have htr := ePk.rowTree (ds.map (pkU 0))
 by_cases hi : i < n
 case neg =>
   have : i = n := by omega
   subst this
   rw [List.take_of_length_le (by omega)] at i3
   rw [if_pos i3] at hW
   by_cases hz : i = 0
   · subst hz
     have e : xs = [] := List.length_eq_zero_iff.1 hxn
     simp
     rw [← hPQ]
     simp only [LoopPostS]
     simp [hW, e, updL]
   · obtain ⟨e1, e2⟩ := ValU_end i2 hxn (by omega)
     obtain ⟨hRl, hRt, hch⟩ := rowU_facts 0 ds last
     generalize rowC cellsPk (ds.map (pkU 0)) ++ cellsU 0 last (mdU last) = RC at *
     have ht18 : RC.take ((ds.length + 1) * 18) = RC := List.take_of_length_le (by omega)
     have hRn : RC ≠ [] := by rintro rfl; simp at hRl
     simp [hz]
     rw [← hPQ]
     simp only [LoopPostS]
     simp [hz, hW, e1, hRl, hRt, ht18, hch, hRn, -List.all_eq_true]
 obtain ⟨k, hkk, hd⟩ := get_drop (l := p.Keys) (i := i) (by omega)
 clear hd
 have w1 : IntKind.i64.wrap ((i : Int) + 1) = i + 1 := wrap_in (by omega)
 have w0 : IntKind.i64.wrap 0 = 0 := by decide
 have wn : IntKind.i64.wrap 1 = 1 := by decide
 have k57 := fun H => (f37 db _ rfl hdb ok k).up' H rfl rfl
 have i4 : (p.Keys.take (i + 1)).all (fun k => (getD_ db k).2) = (getD_ db k).2 := by
   rw [List.take_add_one, hkk, List.all_append, i3]
   simp
 have hx : xs[i]? = some (getD_ db k).1 := by rw [hxs, askL, List.getElem?_map, hkk]; rfl
 generalize getD_ db k = g at *
 obtain ⟨x, f⟩ := g
 simp only at i4 hx k57
 cases f with
 | false =>
   have hno : ¬ p.Keys.all (fun k => (getD_ db k).2) = true := by
     intro h
     have : (p.Keys.take (i + 1)).all (fun k => (getD_ db k).2) = true := List.all_eq_true.2 fun y hy => List.all_eq_true.1 h y (List.mem_of_mem_take hy)
     rw [i4] at this
     exact absurd this (by simp)
   rw [if_neg hno] at hW
   by_cases hz : i = 0
   · subst hz
     simp [hn, hi, hkk, gE hkk]
     refine ⟨_, _, .inl (by simpa using k57 _), by simp, ?_⟩
     simp
     rw [← hPQ]
     simp only [LoopPostS]
     simp [hW]
   · simp [hn, hi, hkk, gE hkk, hz]
     refine ⟨_, _, .inl (by simpa using k57 _), by simp, ?_⟩
     simp
     rw [← hPQ]
     simp only [LoopPostS]
     simp [hW]
 | true =>
   by_cases hz : i = 0
   · subst hz
     have v := ValU_first hx
     obtain ⟨e1, e2⟩ : ds = [] ∧ last = [] := i2
     subst e1; subst e2
     simp [hn, hi, hkk, gE hkk]
     refine ⟨_, _, .inl (by simpa using k57 _), by simp, ?_⟩
     simp [w0, wn]
     rw [← hPQ]
     simp only [LoopPostS]
     refine ⟨(1, [], [x]), ⟨by omega, v, i4⟩, by omega, .inr ⟨1, 3, Nat.zero_le _, Nat.zero_le _, by simp, by simp, Nat.zero_le _, ?_, ?_⟩⟩
     · simp [LeLookS, ren, ren0, swp]
     · simp [LeBoxesS, swpH, rowC_nil, cellsU, mdU, LeCellsS, ren, ren0]
   have hi2 := hq i i1 i3
   have hdl : 16 * ds.length + 1 ≤ i := by
     rw [ValU, if_neg hz] at i2
     omega
   have wd : IntKind.i64.wrap (ds.length : Int) = ds.length := wrap_in (by omega)
   have wd1 : IntKind.i64.wrap ((ds.length : Int) + 1) = ds.length + 1 := wrap_in (by omega)
   have hmt : (i : Int).tmod 16 = ((i % 16 : Nat) : Int) := (Int.ofNat_tmod i 16).symm
   by_cases hm : i % 16 = 0
   · obtain ⟨v, hl⟩ := ValU_next i2 (by omega) hx hm
     have hm2 : (i : Int).tmod 16 = 0 := by rw [hmt, hm]; rfl
     have emd : mdU last = .sh := if_neg hl
     rw [emd, cellsU_sh]
     have hR : rowC cellsPk (ds.map (pkU 0)) ++ cellsPk (pkU 0 last) = rowC cellsPk ((ds ++ [last]).map (pkU 0)) := by rw [List.map_append, rowC_app, List.map_cons, List.map_nil, rowC_one]
     rw [hR]
     have hRl : (rowC cellsPk ((ds ++ [last]).map (pkU 0))).length = (ds.length + 1) * 18 := by rw [ePk.rowLen]; simp
     have hsc : (rowC cellsPk ((ds ++ [last]).map (pkU 0))).all (fun c => c.scalar && !c.isOwn) = true := rowPk_sc _
     have ht18 : (rowC cellsPk ((ds ++ [last]).map (pkU 0))).take ((ds.length + 1) * 18) = rowC cellsPk ((ds ++ [last]).map (pkU 0)) := List.take_of_length_le (by omega)
     generalize hRR : rowC cellsPk ((ds ++ [last]).map (pkU 0)) = R at *
     have hRn : R ≠ [] := by rintro rfl; simp at hRl
     have s1 : ds.length ≤ 140737488355326 := by omega
     have s2 : (ds.length + 1 + 1) * 176 ≤ 140737488355328 := by omega
     simp only [AVal.isOwn] at hsc
     have hg := row_get hRl
     have hst := row_set hRl
     have hlt : (ds.length : Int) < ds.length + 1 := by omega
     have hge : 0 ≤ (ds.length : Int) + 1 := by omega
     simp [hn, hi, hkk, gE hkk, hz]
     refine ⟨_, _, .inl (by simpa using k57 _), by simp, ?_⟩
     simp [hz, hlt, hge, hg, hst, hm2, hRl, hRn, ht18, hsc, s1, s2, wd, wd1, -List.all_eq_true]
     rw [← hPQ]
     simp only [LoopPostS]
     have hRt : R.all AVal.tree = true := by rw [← hRR]; exact ePk.rowTree _
     refine ⟨(i + 1, ds ++ [last], [x]), ⟨by omega, v, i4⟩, by omega, .inr ⟨1, 5, Nat.zero_le _, Nat.zero_le _, by simp, by simp, Nat.zero_le _, ?_, ?_⟩⟩
     · simp [LeLookS, ren, ren0, swp, w1]
     · simp only [Nat.succ_ne_zero, if_false, hRR]
       simp [LeBoxesS, swpH, LeCellsS, ren, ren0]
       refine LeCellsS_app ?_ hRt
       simp [LeCellsS, cellsU, mdU, ren, ren0]
   · obtain ⟨v, hl⟩ := ValU_more i2 (by omega) hx hm
     have hm2 : ¬ (i : Int).tmod 16 = 0 := by rw [hmt]; omega
     have emd : mdU last = .own := if_pos hl
     rw [emd]
     have s3 : (last.length + 1) * 136 ≤ 140737488355328 := by omega
     have s4 : last.length ≤ 140737488355327 := by omega
     generalize hRR : rowC cellsPk (ds.map (pkU 0)) = R at *
     have hg := row_get hrl
     have hst := row_set hrl
     have hlt : (ds.length : Int) < ds.length + 1 := by omega
     simp [hn, hi, hkk, gE hkk, hz]
     refine ⟨_, _, .inl (by simpa using k57 _), by simp, ?_⟩
     simp [hz, hlt, hg, hst, hm2, hrl, wd, wd1, s3, s4, cellsU, -List.all_eq_true]
     rw [← hPQ]
     simp only [LoopPostS]
     refine ⟨(i + 1, ds, last ++ [x]), ⟨by omega, v, i4⟩, by omega, .inl ?_⟩
     simp [hRR, w1]
     refine LeCells_app (treeCells_le _ htr) rfl ?_
     unfold mdU
     split <;> simp [cellsU]
end Go.Proofs.Ytfngaildaoahpaa

/- The exchange of databases: requests. -/
namespace Go.Proofs.Ytfngaildaoahpaa
open Go Go.Am
@[simp] def cellsQ (self : Int) (ks : List LKey) : List AVal := [.int .i64 3, .int .u32 self, .int .u32 0, .int .u32 0, .int .i64 0, .int .i64 0, .int .i64 0, .int .i64 0, .int .u32 0, .int .u32 0, .sl 0 [] .full, .int .i64 0, .bool false, .bool false, .bool false, .sl 0 [] .full, .sl 4 (ks.map encY) .own, .sl 0 [] .full]
set_option maxHeartbeats 4000000 in
set_option maxRecDepth 10000 in
theorem x60 (n : Nbr) (hl : n.Req.length * 56 ≤ 140737488351232) (self : Int) : CFun Try.prog 60 [encN n, .int .u32 self] [] (encPk (reqN n self)) [] := by
 refine CFun.intro (tr := [23, 3000023]) (fz := []) (n := 31) (rs := [.cell 4 34]) Try.func60 rfl (by kernel_rfl) rfl rfl mixed (by kernel_rfl) (by simp) (by simp) ?_
 obtain ⟨m, hm⟩ : ∃ m, n.Req.length = m := ⟨_, rfl⟩
 obtain ⟨k, hk⟩ : ∃ k, min 16 m = k := ⟨_, rfl⟩
 have hk16 : k ≤ 16 := by omega
 have hmk : (if 16 < (m : Int) then (16 : Int) else m) = k := by split <;> omega
 have hkm : (k : Int) ≤ m := by omega
 have ht : n.Req.take 16 = n.Req.take k := by
   by_cases q : 16 ≤ m
   · rw [show k = 16 by omega]
   · rw [List.take_of_length_le (by omega), List.take_of_length_le (by omega)]
 unfold reqN
 rw [ht]
 have hrk : (n.Req.take k).length = k := by simp; omega
 have hmap : (n.Req.map encH).take k = (n.Req.take k).map encH := by simp [List.map_take]
 simp [hm, hmk, hkm]
 simp only [← List.map_take]
 generalize hr : n.Req.take k = r at *
 have hmin : min k m = k := by omega
 refine LoopK.intro (tr := [23, 3000023]) mixed (by kernel_rfl) (fun q : Nat × List LKey => [(2, .ptr 0 0), (4, .ptr 1 0), (5, .ptr 2 0), (16, .sl 7 (r.map encH) .sh), (17, .int .i64 k), (18, .int .i64 q.1)]) (fun q => [cellsN n, cellsPk pkt0, cellsQ self q.2]) (fun q => q.1 ≤ k ∧ q.2.length = q.1 ∧ q.2 = (r.take q.1).map keyH) (fun q => k - q.1) (0, []) ?_ ?_ ?_
 · simp
 · simp [pkt0, hel0, hmin]
 · rintro ⟨i, ks⟩ ⟨h1, h2, h3⟩
   simp only at h1 h2 h3
   by_cases hi : i < k
   · obtain ⟨x, hx, hd⟩ := get_drop (l := r) (i := i) (by omega)
     have w1 : IntKind.i64.wrap ((i : Int) + 1) = i + 1 := wrap_in (by omega)
     have h := fun H => (c25 x).up' H rfl rfl
     have htk : ks ++ [keyH x] = (r.take (i + 1)).map keyH := by rw [List.take_add_one, hx, h3]; simp
     clear hd h3
     have s1 : i + 1 ≤ 140737488355328 := by omega
     have s2 : (i + 1) * 32 ≤ 140737488355328 := by omega
     generalize keyH x = kx at *
     simp [hi, hx, gE hx]
     refine ⟨_, _, .inl (by simpa using h _), by simp, ?_⟩
     simp [h2, s1, s2, w1]
     refine ⟨i + 1, ks ++ [kx], ⟨by omega, by simp; omega, by simpa [List.map_take] using htk⟩, by omega, by simp⟩
   · have : i = k := by omega
     subst this
     have e : ks = r.map keyH := by rw [h3, List.take_of_length_le (by omega)]
     subst e
     simp [pkt0, hel0]
set_option maxHeartbeats 4000000 in
set_option maxRecDepth 10000 in
theorem x62 (n : Nbr) (hl : n.Req.length * 56 ≤ 140737488351232) (self : Int) : CFun Try.prog 62 [encN n, .int .u32 self] [] (encPk (reqN n self)) [] := by
 refine CFun.intro (tr := [21, 3000021]) (fz := []) (n := 32) (rs := [.cell 4 34]) Try.func62 rfl (by kernel_rfl) rfl rfl mixed (by kernel_rfl) (by simp) (by simp) ?_
 obtain ⟨m, hm⟩ : ∃ m, n.Req.length = m := ⟨_, rfl⟩
 unfold reqN
 simp [hm]
 refine LoopK.intro (tr := [21, 3000021]) mixed (by kernel_rfl) (fun q : Nat × List LKey => [(2, .ptr 0 0), (4, .ptr 1 0), (5, .ptr 2 0), (6, .int .i64 q.1)]) (fun q => [cellsN n, cellsPk pkt0, cellsQ self q.2]) (fun q => q.1 ≤ min 16 m ∧ q.2.length = q.1 ∧ q.2 = (n.Req.take q.1).map keyH) (fun q => 16 - q.1) (0, []) ?_ ?_ ?_
 · simp
 · simp [pkt0, hel0]
 · rintro ⟨i, ks⟩ ⟨h1, h2, h3⟩
   simp only at h1 h2 h3
   by_cases hi : i < m
   case neg =>
     have : i = m := by omega
     subst this
     have e : ks = (n.Req.take 16).map keyH := by rw [h3, List.take_of_length_le (by omega), List.take_of_length_le (by omega)]
     subst e
     simp [hm, pkt0, hel0]
   by_cases hj : i < 16
   case neg =>
     have : i = 16 := by omega
     subst this
     subst h3
     simp [hm, hi, pkt0, hel0]
   obtain ⟨x, hx, hd⟩ := get_drop (l := n.Req) (i := i) (by omega)
   have w1 : IntKind.i64.wrap ((i : Int) + 1) = i + 1 := wrap_in (by omega)
   have h := fun H => (c26 x).up' H rfl rfl
   have htk : ks ++ [keyH x] = (n.Req.take (i + 1)).map keyH := by rw [List.take_add_one, hx, h3]; simp
   have hj' : (i : Int) < 16 := by omega
   clear hd h3
   have s1 : i + 1 ≤ 140737488355328 := by omega
   have s2 : (i + 1) * 32 ≤ 140737488355328 := by omega
   generalize keyH x = kx at *
   simp [hm, hi, hj', hx, gE hx]
   refine ⟨_, _, .inl (by simpa using h _), by simp, ?_⟩
   simp [h2, s1, s2, w1]
   refine ⟨i + 1, ks ++ [kx], ⟨by omega, by simp; omega, by simpa [List.map_take] using htk⟩, by omega, by simp⟩
end Go.Proofs.Ytfngaildaoahpaa

/- The exchange of databases, by the reference: batches, young headers, insertion, records. -/
namespace Go.Proofs.Ytfngaildaoahpaa
open Go Go.Am
end Go.Proofs.Ytfngaildaoahpaa
