/- What a neighbor brings as an argument; the law ExchangeStarts. -/
import Derived.Test.YtfngaildaoahpaaXS2
import Derived.Test.YtfngaildaoahpaaXK5
import Derived.Test.YtfngaildaoahpaaAmAA
set_option linter.unusedSimpArgs false
set_option linter.unusedVariables false
namespace Go.Proofs.Ytfngaildaoahpaa
open Go Go.Am
def csN : List CTy := [.int .u32, .int .u32, .int .i64, .int .u32, .int .u32, .int .i64, .int .i64, .bool, .int .i64, .sl true 56 csH, .sl true 56 csH, .bool, .sl true 56 csH, .sl true 56 csH, .int .i64]
def tyN : Bool × List CTy := (true, csN)
theorem rds_h {ts : List CTy} {cs : List AVal} (h : Rds (.sl true 56 csH :: ts) cs) : ∃ (l : List Hdr) (r : List AVal), cs = .sl 7 (l.map encH) .sh :: r ∧ Rds ts r ∧ l.length * 56 ≤ 140737488351232 ∧ ∀ x ∈ l, okH x := by
 obtain ⟨l, r, e, h2, z⟩ := Rds_sl (enc := fun x : { x : Hdr // okH x } => encH x.1) h (fun y cs e h => by
   obtain ⟨a, ha, ok⟩ := rd_H (x := y) ⟨cs, e, h⟩
   exact ⟨⟨a, ok⟩, ha⟩)
 refine ⟨l.map (·.1), r, by rw [e]; simp [Function.comp_def, csH], h2, by simpa [reachBytes] using z, fun x hx => ?_⟩
 obtain ⟨y, _, rfl⟩ := List.mem_map.1 hx
 exact y.2
structure okN (n : Nbr) : Prop where
  router : inW n.Router
  seq : inI n.Seq
  lst : n.Lst.length * 56 ≤ 140737488351232
  sent : n.Sent.length * 56 ≤ 140737488351232
  req : n.Req.length * 56 ≤ 140737488351232
  una : n.Una.length * 56 ≤ 140737488351232
  hlst : ∀ h ∈ n.Lst, okH h
  hsent : ∀ h ∈ n.Sent, okH h
  hreq : ∀ h ∈ n.Req, okH h
  huna : ∀ h ∈ n.Una, okH h
theorem rd_N {x : AVal} (h : RdA tyN x) : ∃ n : Nbr, x = encN n ∧ okN n := by
 obtain ⟨cs, h1, h⟩ := h
 obtain ⟨a1, r, rfl, h, w1⟩ := Rds_int h
 obtain ⟨a2, r, rfl, h, _⟩ := Rds_int h
 obtain ⟨a3, r, rfl, h, _⟩ := Rds_int h
 obtain ⟨a4, r, rfl, h, _⟩ := Rds_int h
 obtain ⟨a5, r, rfl, h, _⟩ := Rds_int h
 obtain ⟨a6, r, rfl, h, _⟩ := Rds_int h
 obtain ⟨a7, r, rfl, h, _⟩ := Rds_int h
 obtain ⟨a8, r, rfl, k1⟩ := Rds_bool h
 obtain ⟨a9, r, rfl, h, w2⟩ := Rds_int k1
 obtain ⟨b1, r, rfl, h, z1, y1⟩ := rds_h h
 obtain ⟨b2, r, rfl, h, z2, y2⟩ := rds_h h
 obtain ⟨b3, r, rfl, k2⟩ := Rds_bool h
 obtain ⟨b4, r, rfl, h, z3, y3⟩ := rds_h k2
 obtain ⟨b5, r, rfl, h, z4, y4⟩ := rds_h h
 obtain ⟨b6, r, rfl, h, _⟩ := Rds_int h
 obtain rfl := Rds_nil h
 exact ⟨⟨a1, a2, a3, a4, a5, a6, a7, a8, a9, b1, b2, b3, b4, b5, b6⟩, by rw [if_pos (show tyN.1 = true from rfl)] at h1; exact h1, wf_u32 w1, wf_i64 w2, z1, z2, z3, z4, y1, y2, y3, y4⟩
end Go.Proofs.Ytfngaildaoahpaa

/- Headers in the order of their keys: what was shown of advertisements, shown of headers. -/
namespace Go.Proofs.Ytfngaildaoahpaa
open Go Go.Am
def ascH (db : List Hdr) : Prop := db.Pairwise fun x y => ltY (keyH x) (keyH y)
def hasKH (k : LKey) (l : Hdr) : Bool := decide (keyH l = k)
def posH (db : List Hdr) (k : LKey) : Nat := posF (fun x => !decide (ltY (keyH x) k)) db
def fndH (db : List Hdr) (k : LKey) : Bool := match db[posH db k]? with
 | some x => decide (keyH x = k)
 | none => false
def putRH (db : List Hdr) (l : Hdr) : List Hdr := if fndH db (keyH l) = true then db.set (posH db (keyH l)) l else insL db (posH db (keyH l)) l
def putH (l : Hdr) : List Hdr → List Hdr
 | [] => [l]
 | x :: xs => if ltY (keyH l) (keyH x) then l :: x :: xs else if keyH l = keyH x then l :: xs else x :: putH l xs
theorem putH_R (l : Hdr) : ∀ {db : List Hdr}, ascH db → putRH db l = putH l db := by
 intro db
 induction db with
 | nil => intro _; rfl
 | cons x xs ih =>
   intro h
   simp only [ascH, List.pairwise_cons] at h
   simp only [putH]
   unfold putRH fndH posH
   rw [posF_cons]
   rcases ltY_tri (keyH l) (keyH x) with h1 | h1 | h1
   · have h2 := ltY_asymm h1
     have h3 : ¬ keyH x = keyH l := fun e => ltY_ne h1 e.symm
     simp [h1, h2, h3, insL]
   · simp [h1, ltY_irrefl]
   · have h2 := ltY_asymm h1
     have h3 : ¬ keyH l = keyH x := fun e => ltY_ne h1 e.symm
     rw [if_neg h2, if_neg h3, ← ih h.2]
     unfold putRH fndH posH
     simp [h1, insL]
     split
     · split <;> rfl
     · rfl
theorem putH_mem {l : Hdr} : ∀ {db : List Hdr}, ascH db → ∀ y, y ∈ putH l db ↔ y = l ∨ (y ∈ db ∧ keyH y ≠ keyH l) := by
 intro db
 induction db with
 | nil => intro _ y; simp [putH]
 | cons x xs ih =>
   intro h y
   simp only [ascH, List.pairwise_cons] at h
   simp only [putH]
   split
   · rename_i h1
     have hx : ∀ z ∈ x :: xs, keyH z ≠ keyH l := by
       intro z hz
       rcases List.mem_cons.1 hz with rfl | hz
       · exact fun e => ltY_ne h1 e.symm
       · exact fun e => ltY_ne (ltY_trans h1 (h.1 z hz)) e.symm
     constructor
     · intro hy
       rcases List.mem_cons.1 hy with rfl | hy
       · exact .inl rfl
       · exact .inr ⟨hy, hx y hy⟩
     · rintro (rfl | ⟨hy, _⟩)
       · simp
       · exact List.mem_cons_of_mem _ hy
   · split
     · rename_i h1 h2
       constructor
       · intro hy
         rcases List.mem_cons.1 hy with rfl | hy
         · exact .inl rfl
         · exact .inr ⟨List.mem_cons_of_mem _ hy, by rw [h2]; exact fun e => ltY_ne (h.1 y hy) e.symm⟩
       · rintro (rfl | ⟨hy, hk⟩)
         · simp
         · rcases List.mem_cons.1 hy with rfl | hy
           · exact (hk h2.symm).elim
           · exact List.mem_cons_of_mem _ hy
     · rename_i h1 h2
       rw [List.mem_cons, ih h.2]
       constructor
       · rintro (rfl | rfl | ⟨hy, hk⟩)
         · exact .inr ⟨by simp, fun e => h2 e.symm⟩
         · exact .inl rfl
         · exact .inr ⟨List.mem_cons_of_mem _ hy, hk⟩
       · rintro (rfl | ⟨hy, hk⟩)
         · exact .inr (.inl rfl)
         · rcases List.mem_cons.1 hy with rfl | hy
           · exact .inl rfl
           · exact .inr (.inr ⟨hy, hk⟩)
theorem putH_asc {l : Hdr} : ∀ {db : List Hdr}, ascH db → ascH (putH l db) := by
 intro db
 induction db with
 | nil => intro _; simp [putH, ascH]
 | cons x xs ih =>
   intro h
   have h0 := h
   simp only [ascH, List.pairwise_cons] at h
   simp only [putH]
   split
   · rename_i h1
     simp only [ascH]
     rw [List.pairwise_cons]
     refine ⟨fun z hz => ?_, h0⟩
     rcases List.mem_cons.1 hz with rfl | hz
     · exact h1
     · exact ltY_trans h1 (h.1 z hz)
   · split
     · rename_i h1 h2
       simp only [ascH]
       rw [List.pairwise_cons]
       exact ⟨fun z hz => by rw [h2]; exact h.1 z hz, h.2⟩
     · rename_i h1 h2
       simp only [ascH]
       rw [List.pairwise_cons]
       refine ⟨fun z hz => ?_, ih h.2⟩
       rcases (putH_mem h.2 z).1 hz with rfl | ⟨hz, _⟩
       · rcases ltY_tri (keyH z) (keyH x) with k | k | k
         · exact (h1 k).elim
         · exact (h2 k).elim
         · exact k
       · exact h.1 z hz
theorem putH_len {l : Hdr} : ∀ {db : List Hdr}, ascH db → (putH l db).length = db.length + if fndH db (keyH l) = true then 0 else 1 := by
 intro db h
 rw [← putH_R l h]
 unfold putRH
 split
 · simp
 · exact insL_len (posF_le _ _)
end Go.Proofs.Ytfngaildaoahpaa

/- The exchange of databases: rows in order, searches. -/
namespace Go.Proofs.Ytfngaildaoahpaa
open Go Go.Am
def ordH : List Hdr → Bool
 | x :: y :: l => if 0 ≤ cmpY (keyH x) (keyH y) then false else ordH (y :: l)
 | _ => true
set_option maxHeartbeats 4000000 in
set_option maxRecDepth 10000 in
theorem x19 (l : List Hdr) (n : Nat) (hn : l.length = n) (hlen : n < 8796093022208) : CFun Try.prog 19 [.sl 7 (l.map encH) .sh] [] (.bool (ordH l)) [] := by
 refine CFun.intro (tr := []) (fz := []) (n := 23) (rs := [.tmp 2]) Try.func19 rfl (by kernel_rfl) rfl rfl mixed (by kernel_rfl) (by simp) (by simp) ?_
 simp
 refine LoopK.intro (tr := []) mixed (by kernel_rfl) (fun i : Nat => [(0, .sl 7 (l.map encH) .sh), (3, .int .i64 ((i : Int) + 1))]) (fun _ => []) (fun i => i ≤ n ∧ ordH l = ordH (l.drop i)) (fun i => n - i) 0 ?_ ?_ ?_
 · simp
 · simp
 · rintro i ⟨h1, h2⟩
   by_cases hi : i + 1 < n
   · obtain ⟨x, hx, hd⟩ := get_drop (l := l) (i := i) (by omega)
     obtain ⟨y, hy, he⟩ := get_drop (l := l) (i := i + 1) (by omega)
     rw [hd, he] at h2
     simp only [ordH] at h2
     rw [← he] at h2
     have w1 : IntKind.i64.wrap ((i : Int) + 1 + 1) = (i : Int) + 1 + 1 := wrap_in (by omega)
     have w2 : IntKind.i64.wrap (i : Int) = (i : Int) := wrap_in (by omega)
     have b1 : (i : Int) + 1 < n := by omega
     have b2 : (i : Int) ≤ n := by omega
     have e1 : ((i : Int) + 1).toNat = i + 1 := by omega
     have b3 : 0 ≤ (i : Int) + 1 := by omega
     have k1 := fun H => (c26 x).up' H rfl rfl
     have k2 := fun H => (c26 y).up' H rfl rfl
     have k3 := fun H => (c28 (keyH x) (keyH y)).up' H rfl rfl
     generalize keyH x = kx at k1 k3 h2
     generalize keyH y = ky at k2 k3 h2
     clear hd he
     simp [hn, b1, b3, w2, hx, hy, gE hx, gE hy, e1]
     refine ⟨_, _, .inl (by simpa using k1 _), by simp, ?_⟩
     simp [hn, b1, b3, w2, hx, hy, gE hx, gE hy, e1]
     refine ⟨_, _, .inl (by simpa using k2 _), by simp, ?_⟩
     simp
     refine ⟨_, _, .inl (by simpa using k3 _), by simp, ?_⟩
     by_cases hc : 0 ≤ cmpY kx ky
     · rw [if_pos hc] at h2
       simp [hc, h2]
     · rw [if_neg hc] at h2
       simp [hc, w1]
       exact ⟨i + 1, ⟨by omega, h2⟩, by omega, by simp⟩
   · have b1 : ¬ (i : Int) + 1 < n := by omega
     have e : ordH (l.drop i) = true := by
       cases hq : l.drop i with
       | nil => rfl
       | cons x r =>
         cases r with
         | nil => rfl
         | cons y r =>
           have := congrArg List.length hq
           simp at this
           omega
     simp [hn, b1, h2, e]
set_option maxHeartbeats 4000000 in
set_option maxRecDepth 10000 in
theorem x20 (l : List Hdr) (n : Nat) (hn : l.length = n) (hlen : n < 8796093022208) (k : LKey) : CFun Try.prog 20 [.sl 7 (l.map encH) .sh, encY k] [] (.int .i64 (idxL (hasKH k) l 0)) [] := by
 refine CFun.intro (tr := []) (fz := []) (n := 20) (rs := [.tmp 4]) Try.func20 rfl (by kernel_rfl) rfl rfl mixed (by kernel_rfl) (by simp) (by simp) ?_
 simp
 refine LoopK.intro (tr := []) mixed (by kernel_rfl) (fun i : Nat => [(0, .sl 7 (l.map encH) .sh), (3, .ptr 0 0), (5, .int .i64 i)]) (fun _ => [cellsY k]) (fun i => i ≤ n ∧ idxL (hasKH k) l 0 = idxL (hasKH k) (l.drop i) i) (fun i => n - i) 0 ?_ ?_ ?_
 · simp
 · simp
 · rintro i ⟨h1, h2⟩
   by_cases hi : i < n
   · obtain ⟨x, hx, hd⟩ := get_drop (l := l) (i := i) (by omega)
     rw [hd] at h2
     simp only [idxL] at h2
     have w1 : IntKind.i64.wrap ((i : Int) + 1) = i + 1 := wrap_in (by omega)
     have h := fun H => (c26 x).up' H rfl rfl
     have hk := keyY_iff (keyH x) k
     have hh : hasKH k x = decide (keyH x = k) := rfl
     rw [hh] at h2
     generalize keyH x = q at h hk h2
     clear hd hh
     simp [hi, hn, hx, gE hx]
     refine ⟨_, _, .inl (by simpa using h _), by simp, ?_⟩
     by_cases hb : q = k
     · subst hb
       simp at h2
       simp [h2]
     · rw [if_neg (by simpa using hb)] at h2
       rw [decide_eq_false hb] at hk
       simp only [Bool.and_eq_false_iff, beq_eq_false_iff_ne] at hk
       have hk2 : ¬ (q.Ty = k.Ty ∧ q.ID = k.ID ∧ q.Len = k.Len ∧ q.Router = k.Router) := by
         rintro ⟨r1, r2, r3, r4⟩
         cases q; cases k; simp_all
       simp [hk2, w1]
       exact ⟨i + 1, ⟨by omega, h2⟩, by omega, by simp⟩
   · have : i = n := by omega
     subst this
     rw [List.drop_eq_nil_of_le (by omega)] at h2
     simp [hn, h2, idxL]
end Go.Proofs.Ytfngaildaoahpaa

/- The exchange of databases: records. -/
namespace Go.Proofs.Ytfngaildaoahpaa
open Go Go.Am
def recL (db : List Lsa) (hs : List Hdr) (l : List Hdr) : List Hdr := hs.foldl (fun l h => if cmpD db h = 1 then putH h l else l) l
def recordN (n : Nbr) (db : List Lsa) (p : Pkt) : Nbr := { n with Req := recL db p.Heads n.Req, More := p.More }
def youngD (db : List Lsa) : List Hdr := (db.map Lsa.H).filter fun h => decide (h.Age < 3600)
end Go.Proofs.Ytfngaildaoahpaa

/- Rows of headers: the library's functions. -/
namespace Go.Proofs.Ytfngaildaoahpaa
open Go Go.Am
def ceH (h : Hdr) : List AVal := cellsH h
theorem eHh : Enc ceH 7 where
  pos := by omega
  len x := rfl
  dis x := rfl
  tree x := by simp [AVal.tree, ceH]
def zH : List AVal := [.int .i64 0, .int .u32 0, .int .i64 0, .int .u32 0, .int .i64 0, .int .i64 0, .int .i64 0]
set_option maxHeartbeats 4000000 in
set_option maxRecDepth 10000 in
theorem ch_cl (l : List Hdr) (s1 : l.length * 56 ≤ 140737488355328) : CFun Try.prog 70 [.sl 7 (l.map fun x => AVal.agg (ceH x)) .sh] [] (.sl 7 (l.map fun x => AVal.agg (ceH x)) .sh) [] := by
 refine CFun.intro (tr := []) (fz := []) (n := 8) (rs := [.tmp 2]) Try.func70 rfl (by kernel_rfl) rfl rfl mixed (by kernel_rfl) (by simp) (by simp) ?_
 have s2 : l.length ≤ 140737488355328 := by omega
 cases l with
 | nil => simp
 | cons x xs =>
   simp only [List.length_cons] at s1 s2
   simp [s1, s2]
set_option maxHeartbeats 4000000 in
set_option maxRecDepth 10000 in
theorem ch_clr (l : List Hdr) (hne : l ≠ []) (s1 : l.length * 56 ≤ 140737488355328) : CFun Try.prog 70 [.sl 7 (l.map fun x => AVal.agg (ceH x)) .sh] [] (.osl 0 0 l.length none 7) [rowC ceH l] := by
 refine CFun.intro (tr := [100007]) (fz := []) (n := 8) (rs := [.tmp 2]) Try.func70 rfl (by kernel_rfl) rfl rfl mixed (by kernel_rfl) (by simp) (by simp) ?_
 have s2 : l.length ≤ 140737488355328 := by omega
 have s3 : 0 < l.length := List.length_pos_iff.2 hne
 have s4 : (l.map fun x => AVal.agg (ceH x)).isEmpty = false := by cases l <;> simp_all
 have s5 := rowC_map (ce := ceH) l
 simp [hne, s1, s2, s3, s4]
 rw [s5, (eHh).rowDis]
 exact (eHh).rowLe 1 l
set_option maxHeartbeats 4000000 in
set_option maxRecDepth 10000 in
theorem ch_cl0 : CFun Try.prog 70 [.sl 7 [] .sh] [] (.sl 7 [] .full) [] := by
 refine CFun.intro (tr := [100007]) (fz := []) (n := 8) (rs := [.tmp 2]) Try.func70 rfl (by kernel_rfl) rfl rfl mixed (by kernel_rfl) (by simp) (by simp) ?_
 simp
set_option maxHeartbeats 4000000 in
set_option maxRecDepth 10000 in
theorem ih_ix (l : List Hdr) (n : Nat) (hn : l.length = n) (hlen : n < 8796093022208) (p : Hdr → Bool) (f : FuncId) (fs cs : List AVal) (H : List (List AVal)) (hf : low H.length (.fn f fs cs) = true) (hH : LeBoxes H.length H H)
   (hp : ∀ x ∈ l, CFun Try.prog f (fs ++ [.agg (ceH x)] ++ cs) H (.bool (p x)) H) : CFun Try.prog 86 [.sl 7 (l.map fun x => AVal.agg (ceH x)) .sh, .fn f fs cs] H (.int .i64 (idxL p l 0)) H := by
 refine CFun.intro (tr := []) (fz := []) (n := 19) (rs := [.tmp 4]) Try.func86 rfl (by kernel_rfl) rfl rfl mixed (by kernel_rfl) (by simp) (by simp) ?_
 simp
 refine LoopK.intro (tr := []) mixed (by kernel_rfl) (fun i : Nat => [(0, .sl 7 (l.map fun x => AVal.agg (ceH x)) .sh), (1, .fn f fs cs), (7, .int .i64 n), (8, .int .i64 i)]) (fun _ => H) (fun i => i ≤ n ∧ idxL p l 0 = idxL p (l.drop i) i) (fun i => n - i) 0 ?_ ?_ ?_
 · simp
 · simp [hn, hH]
   simpa [low] using hf
 · rintro i ⟨h1, h2⟩
   by_cases hi : i < n
   · obtain ⟨x, hx, hd⟩ := get_drop (l := l) (i := i) (by omega)
     have hpx := hp x (List.mem_of_getElem? hx)
     rw [hd] at h2
     clear hd hn
     have w1 : IntKind.i64.wrap ((i : Int) + 1) = i + 1 := wrap_in (by omega)
     have hl := (eHh).len x
     have ht := List.all_eq_true.1 ((eHh).tree x)
     have hdis := (eHh).dis x
     have htk : (List.take 7 (ceH x)) = ceH x := List.take_of_length_le (by omega)
     simp [hi, hx, hl, ht, hdis, htk]
     refine ⟨_, _, .inl (by simpa [cargs] using hpx), by simp, ?_⟩
     simp only [idxL] at h2
     by_cases hpb : p x = true
     · simp [hpb, hH, h2]
     · rw [if_neg hpb] at h2
       simp [hpb, w1, hH]
       refine ⟨i + 1, ⟨by omega, h2⟩, by omega, ?_⟩
       simp
       simpa [low] using hf
   · have : i = n := by omega
     subst this
     rw [List.drop_eq_nil_of_le (by omega)] at h2
     simp [h2, idxL, hH]
set_option maxHeartbeats 4000000 in
set_option maxRecDepth 10000 in
theorem ih_ixr (l : List Hdr) (rest : List AVal) (n : Nat) (hn : l.length = n) (hlen : n < 8796093022208) (p : Hdr → Bool) (f : FuncId) (fs cs : List AVal) (H : List (List AVal)) (id : Nat) (cap : Option Nat) (hid : H[id]? = some (rowC ceH l ++ rest))
   (hf : low H.length (.fn f fs cs) = true) (hH : LeBoxes H.length H H)
   (hp : ∀ x ∈ l, CFun Try.prog f (fs ++ [.agg (ceH x)] ++ cs) H (.bool (p x)) H) : CFun Try.prog 86 [.osl id 0 n cap 7, .fn f fs cs] H (.int .i64 (idxL p l 0)) H := by
 have hidl : id < H.length := (List.getElem?_eq_some_iff.1 hid).1
 refine CFun.intro (tr := []) (fz := []) (n := 19) (rs := [.tmp 4]) Try.func86 rfl (by kernel_rfl) rfl rfl mixed (by kernel_rfl) (by simp) (by simp) ?_
 simp
 refine LoopK.intro (tr := []) mixed (by kernel_rfl) (fun i : Nat => [(0, .osl id 0 n cap 7), (1, .fn f fs cs), (7, .int .i64 n), (8, .int .i64 i)]) (fun _ => H) (fun i => i ≤ n ∧ idxL p l 0 = idxL p (l.drop i) i) (fun i => n - i) 0 ?_ ?_ ?_
 · simp
 · simp [hH, hidl]
   simpa [low] using hf
 · rintro i ⟨h1, h2⟩
   by_cases hi : i < n
   · obtain ⟨x, hx, hd⟩ := get_drop (l := l) (i := i) (by omega)
     have hpx := hp x (List.mem_of_getElem? hx)
     have hload := (eHh).load hx rest
     rw [hd] at h2
     clear hd hn
     have w1 : IntKind.i64.wrap ((i : Int) + 1) = i + 1 := wrap_in (by omega)
     simp [hi, hid, hload, -aload]
     refine ⟨_, _, .inl (by simpa [cargs] using hpx), by simp, ?_⟩
     simp only [idxL] at h2
     by_cases hpb : p x = true
     · simp [hpb, hH, h2]
     · rw [if_neg hpb] at h2
       simp [hpb, w1, hH]
       refine ⟨i + 1, ⟨by omega, h2⟩, by omega, ?_⟩
       simp [hidl]
       simpa [low] using hf
   · have : i = n := by omega
     subst this
     rw [List.drop_eq_nil_of_le (by omega)] at h2
     simp [h2, idxL, hH]
set_option maxHeartbeats 4000000 in
set_option maxRecDepth 10000 in
theorem dh_del (l : List Hdr) (n c : Nat) (hn : l.length = n) (hc : n ≤ c) (hlen : n < 8796093022208) (p : Hdr → Bool) (f : FuncId) (fs cs : List AVal) (hfs : fs.all noid0 = true) (hcs : cs.all noid0 = true)
   (hp : ∀ x, CFun Try.prog f (fs ++ [.agg (ceH x)] ++ cs) [] (.bool (p x)) []) : CFun Try.prog 63 [.osl 0 0 n (some c) 7, .fn f fs cs] [rowC ceH l] (.osl 0 0 (l.filter fun x => !p x).length (some c) 7) [delRow ceH 7 p l] := by
 have n01 : ∀ y : AVal, noid0 y = true → noid y = true := by
   intro y hy
   cases y <;> first | rfl | (simp [noid0] at hy)
 have hno : ∀ x : Hdr, (fs ++ [AVal.agg (ceH x)] ++ cs).all noid = true := by
   intro x
   simp only [List.all_append, Bool.and_eq_true]
   exact ⟨⟨List.all_eq_true.2 fun y hy => n01 y (List.all_eq_true.1 hfs y hy), rfl⟩, List.all_eq_true.2 fun y hy => n01 y (List.all_eq_true.1 hcs y hy)⟩
 have hlow : ∀ k, low k (.fn f fs cs) = true := fun k => noid_low (by simp [noid, hfs, hcs])
 have flatB_le := (eHh).rowLe
 refine CFun.intro (tr := []) (fz := []) (n := 42) (rs := [.tmp 4]) Try.func63 rfl (by kernel_rfl) rfl rfl mixed (by kernel_rfl) (by simp) (by simp) ?_
 simp
 have hidx := ih_ixr l [] n hn hlen p f fs cs [rowC ceH l] 0 (some c) (by simp) (hlow _) (by simp [flatB_le]) (fun x _ => (hp x).up' _ (hno x) rfl)
 refine ⟨_, _, .inl hidx, trivial, ?_⟩
 rcases idxL_spec p l 0 with ⟨e1, e2⟩ | ⟨i, e1, e2, e3⟩
 · simp [e1, delRow, e2, hn, flatB_le]
 · have w0 : IntKind.i64.wrap ((i : Int) + 1) = i + 1 := wrap_in (by omega)
   have hne : ¬ ((i : Int) = -1) := by omega
   simp [e1, w0, hne]
   refine LoopK.intro (tr := []) mixed (by kernel_rfl) (fun q : Nat × Nat × List Hdr => [(0, .osl 0 0 n (some c) 7), (1, .fn f fs cs), (5, .int .i64 q.1), (6, .int .i64 q.2.1)]) (fun q => [rowC ceH q.2.2])
     (fun q => q.1 < q.2.1 ∧ q.2.1 ≤ n ∧ q.2.2.length = n ∧ q.2.2.take q.1 = (l.take q.2.1).filter (fun x => !p x) ∧ q.2.2.drop q.2.1 = l.drop q.2.1) (fun q => n - q.2.1) (i, i + 1, l) ?_ ?_ ?_
   · exact ⟨by simp, by simp; omega, hn, e3.symm, rfl⟩
   · simp [flatB_le]
     simpa [low] using hlow 1
   · rintro ⟨a, b, cur⟩ ⟨h1, h2, h3, h4, h5⟩
     simp only at h1 h2 h3 h4 h5
     have hal : a < cur.length := by omega
     by_cases hb : b < n
     · obtain ⟨x, hx, hd⟩ := get_drop (l := l) (i := b) (by omega)
       obtain ⟨y, hy, he⟩ := get_drop (l := cur) (i := b) (by omega)
       rw [hd, he, List.cons.injEq] at h5
       obtain ⟨rfl, h5⟩ := h5
       have hload := (eHh).load0 hy
       have hcall := (hp y).up' [rowC ceH cur, ceH y] (hno y) rfl
       have hset := (eHh).setOne0 cur a y hal
       have w1 : IntKind.i64.wrap ((b : Int) + 1) = b + 1 := wrap_in (by omega)
       have w2 : IntKind.i64.wrap ((a : Int) + 1) = a + 1 := wrap_in (by omega)
       have htk : (l.take (b + 1)).filter (fun x => !p x) = (l.take b).filter (fun x => !p x) ++ [y].filter (fun x => !p x) := by
         rw [List.take_add_one, hx]; simp
       have hlen2 := (eHh).rowLen cur
       have hl := (eHh).len y
       have ht := List.all_eq_true.1 ((eHh).tree y)
       have hdis := (eHh).dis y
       have hyk : (List.take 7 (ceH y)) = ceH y := List.take_of_length_le (by omega)
       have hle := treeCells_le 1 ((eHh).tree y)
       have hs0 : setR zH 0 (ceH y) = ceH y := rfl
       simp only [zH] at hs0
       have hl1 := (eHh).load0 (l := [y]) (i := 0) rfl
       rw [rowC_one, Nat.zero_mul] at hl1
       clear hn hd he
       by_cases hpx : p y = true
       · simp [hb, hload, hl, ht, hdis, hyk, hs0, hl1, -aload, -setR]
         refine ⟨_, _, .inl (by simpa [cargs, hdis, hyk] using hcall), by simp, ?_⟩
         simp [hpx, w1]
         refine ⟨a, b + 1, cur, ⟨by omega, by omega, h3, by rw [htk]; simp [hpx, h4], h5⟩, by omega, ?_⟩
         simp [flatB_le]
         simpa [low] using hlow 1
       · have hfit : a * 7 + 7 ≤ (rowC ceH cur).length := by omega
         simp [hb, hload, hl, ht, hdis, hyk, hs0, hl1, -aload, -setR]
         refine ⟨_, _, .inl (by simpa [cargs, hdis, hyk] using hcall), by simp, ?_⟩
         have han : a < n := by omega
         have hset' : (cur.set a y).take (a + 1) = (l.take (b + 1)).filter (fun x => !p x) := by
           rw [htk, ← h4, List.take_add_one, List.take_set_of_le (by omega)]
           simp [hal, hpx]
         simp [hpx, han, hfit, hset, hl, hl1, hdis, hyk, w1, w2, -setR, -aload]
         refine ⟨a + 1, b + 1, cur.set a y, ⟨by omega, by omega, by simpa using h3, hset', ?_⟩, by omega, ?_⟩
         · rw [List.drop_set_of_lt (by omega)]; exact h5
         · simp [flatB_le]
           simpa [low] using hlow 1
     · have hbn : b = n := by omega
       subst hbn
       have hlb : l.take b = l := List.take_of_length_le (by omega)
       rw [hlb] at h4
       have hl : (l.filter fun x => !p x).length = a := by
         rw [← h4]; simp; omega
       have hrow := (eHh).strike cur a (by omega) ((b - a) * 7) (by rw [h3]) (List.replicate ((b - a) * 7) .undef) (by simp)
       have hfl := (eHh).rowLen cur
       have hab : ¬ b - a = 0 := by omega
       have hfit : a * 7 + (b - a) * 7 ≤ (rowC ceH cur).length := by omega
       have z1 : a ≤ b := by omega
       have z2 : a ≤ c := by omega
       simp [z1, z2, hab, hfit, hrow, -setR]
       exact ⟨hl.symm, by rw [delRow, hl, hn, h4]; exact (eHh).roomLe _ _ _⟩
set_option maxHeartbeats 4000000 in
set_option maxRecDepth 10000 in
theorem dh_del0 (f : FuncId) (fs cs : List AVal) (hfs : fs.all noid0 = true) (hcs : cs.all noid0 = true)
   (p : Hdr → Bool) (hp : ∀ x, CFun Try.prog f (fs ++ [.agg (ceH x)] ++ cs) [] (.bool (p x)) []) : CFun Try.prog 63 [.sl 7 [] .full, .fn f fs cs] [] (.sl 7 [] .full) [] := by
 refine CFun.intro (tr := []) (fz := []) (n := 42) (rs := [.tmp 4]) Try.func63 rfl (by kernel_rfl) rfl rfl mixed (by kernel_rfl) (by simp) (by simp) ?_
 have hlow : low 0 (.fn f fs cs) = true := noid_low (by simp [noid, hfs, hcs])
 have h := ih_ix [] 0 rfl (by omega) p f fs cs [] hlow (by simp) (fun x hx => by cases hx)
 simp
 refine ⟨_, _, .inl (h.wk [.sl 7 [] .full, .fn f fs cs] (by simp) (by simp)), trivial, ?_⟩
 simp [idxL]
end Go.Proofs.Ytfngaildaoahpaa

/- The exchange of databases: what is pending, what is requested, what is sent again. -/
namespace Go.Proofs.Ytfngaildaoahpaa
open Go Go.Am
theorem ch_row (l : List Hdr) (s1 : l.length * 56 ≤ 140737488355328) : CFun Try.prog 70 [.sl 7 (l.map encH) .sh] [] (.sl 7 (l.map encH) .sh) [] := ch_cl l s1
set_option maxHeartbeats 1000000 in
set_option maxRecDepth 10000 in
theorem x59 (n : Nbr) : CFun Try.prog 59 [encN n] [] (.bool (waitsN n)) [] := by
 refine CFun.intro (tr := []) (fz := []) (n := 20) (rs := [.tmp 2]) Try.func59 rfl (by kernel_rfl) rfl rfl mixed (by kernel_rfl) (by simp) (by simp) ?_
 unfold waitsN
 by_cases h3 : n.State = 3
 · simp [h3]
 by_cases h4 : n.State = 4
 · cases hm : n.Master <;> simp [h4, hm]
 by_cases h5 : n.State = 5
 · simp [h5]
 simp [h3, h4, h5]
set_option maxHeartbeats 2000000 in
set_option maxRecDepth 10000 in
theorem x35 (n : Nbr) (hs : n.Sent.length * 56 ≤ 140737488351232) (self : Int) : CFun Try.prog 35 [encN n, .int .u32 self] [] (encPk (pendN n self)) [] := by
 refine CFun.intro (tr := [900001000017, 900002000017, 3500017]) (fz := []) (n := 30) (rs := [.cell 4 34]) Try.func35 rfl (by kernel_rfl) rfl rfl mixed (by kernel_rfl) (by simp) (by simp) ?_
 have h1 := ch_row n.Sent (by omega)
 unfold pendN
 by_cases h3 : n.State = 3
 · simp [h3, pkt0, hel0]
 simp [h3]
 refine ⟨_, h1, by simp [noid, noid0], ?_⟩
 simp [pkt0, hel0]
set_option maxHeartbeats 2000000 in
set_option maxRecDepth 10000 in
theorem x43 (n : Nbr) (h1 : n.Lst.length * 56 ≤ 140737488351232) (h2 : n.Sent.length * 56 ≤ 140737488351232) (h3 : n.Req.length * 56 ≤ 140737488351232) (h4 : n.Una.length * 56 ≤ 140737488351232) : CFun Try.prog 43 [encN n] [] (encN n) [] := by
 refine CFun.intro (tr := []) (fz := []) (n := 20) (rs := [.cell 2 26]) Try.func43 rfl (by kernel_rfl) rfl rfl mixed (by kernel_rfl) (by simp) (by simp) ?_
 have k1 := fun H => (ch_row n.Lst (by omega)).up' H rfl rfl
 have k2 := fun H => (ch_row n.Sent (by omega)).up' H rfl rfl
 have k3 := fun H => (ch_row n.Req (by omega)).up' H rfl rfl
 have k4 := fun H => (ch_row n.Una (by omega)).up' H rfl rfl
 simp
 refine ⟨_, _, .inl (k1 _), by simp, ?_⟩
 simp
 refine ⟨_, _, .inl (k2 _), by simp, ?_⟩
 simp
 refine ⟨_, _, .inl (k3 _), by simp, ?_⟩
 simp
 refine ⟨_, _, .inl (k4 _), by simp, ?_⟩
 simp
end Go.Proofs.Ytfngaildaoahpaa

/- The exchange of databases: rows of packets; what a statement asks of a neighbor. -/
namespace Go.Proofs.Ytfngaildaoahpaa
open Go Go.Am
def fineN (n : Nbr) (now : Int) : Bool := decide (0 ≤ now) && (decide (now ≤ 1099511627776) && (decide (0 ≤ n.Seq) && (decide (n.Seq < 1099511627776) && (ordH n.Req && ordH n.Una))))
set_option maxHeartbeats 4000000 in
set_option maxRecDepth 10000 in
theorem x14 (n : Nbr) (now : Int) (h3 : n.Req.length < 8796093022208) (h4 : n.Una.length < 8796093022208) : CFun Try.prog 14 [encN n, .int .i64 now] [] (.bool (fineN n now)) [] := by
 refine CFun.intro (tr := []) (fz := []) (n := 31) (rs := [.tmp 4]) Try.func14 rfl (by kernel_rfl) rfl rfl mixed (by kernel_rfl) (by simp) (by simp) ?_
 have k1 := fun H => (x19 n.Req _ rfl h3).up' H rfl rfl
 have k2 := fun H => (x19 n.Una _ rfl h4).up' H rfl rfl
 unfold fineN
 generalize ordH n.Req = o1 at *
 generalize ordH n.Una = o2 at *
 by_cases a1 : 0 ≤ now
 case neg => simp [a1]
 by_cases a2 : now ≤ 1099511627776
 case neg => simp [a1, a2]
 by_cases a3 : 0 ≤ n.Seq
 case neg => simp [a1, a2, a3]
 by_cases a4 : n.Seq < 1099511627776
 case neg => simp [a1, a2, a3, a4]
 simp [a1, a2, a3, a4]
 refine ⟨_, _, .inl (k1 _), by simp, ?_⟩
 cases o1
 · simp
 · simp
   refine ⟨_, _, .inl (k2 _), by simp, ?_⟩
   simp
end Go.Proofs.Ytfngaildaoahpaa
