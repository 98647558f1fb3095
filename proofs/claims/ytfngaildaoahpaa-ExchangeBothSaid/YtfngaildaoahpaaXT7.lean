/- The exchange of databases, by the program: what a database presents. -/
import Derived.Test.YtfngaildaoahpaaXD2
import Derived.Test.YtfngaildaoahpaaXR1
import Derived.Test.YtfngaildaoahpaaXH3
import Derived.Test.YtfngaildaoahpaaXR9
set_option linter.unusedSimpArgs false
set_option linter.unusedVariables false
namespace Go.Proofs.Ytfngaildaoahpaa
open Go Go.Am
theorem treeCellsS {σ : Nat → Nat} {N n : Nat} : ∀ {cs : List AVal}, cs.all AVal.tree = true → LeCellsS σ N n cs cs
 | [], _ => trivial
 | c :: cs, h => by
   simp only [List.all_cons, Bool.and_eq_true] at h
   have e : ren σ c = c := by
     have := h.1
     cases c <;> first | rfl | simp [AVal.tree] at this
   exact ⟨by rw [e]; exact LeV_refl c, tree_low h.1, tree_low h.1, treeCellsS h.2⟩
set_option maxHeartbeats 4000000 in
set_option maxRecDepth 10000 in
theorem x108r (db : List Lsa) (n : Nat) (hn : db.length = n) (h0 : 0 < n) (hdb : n * 136 ≤ 140737488351232) : CFun Try.prog 108 [.sl 15 (db.map encA) .sh] [] (.osl 0 0 n none 7) [rowC ceH (db.map Lsa.H)] := by
 refine CFun.intro (tr := [100016]) (fz := []) (n := 19) (rs := [.tmp 2]) Try.func108 rfl (by kernel_rfl) rfl rfl mixed (by kernel_rfl) (by simp) (by simp) ?_
 simp [hn]
 refine LoopK.introS (tr := [100016]) mixed (by kernel_rfl)
   (fun i : Nat => [(3, if i = 0 then .sl 0 [] .full else .osl 0 0 i none 7), (6, .sl 15 (db.map encA) .sh), (7, .int .i64 n), (8, .int .i64 i)])
   (fun i => if i = 0 then [] else [rowC ceH ((db.take i).map Lsa.H)]) (fun i => i ≤ n) (fun i => n - i) 0 ?_ ?_ ?_
 · simp
 · simp
 · intro i h1
   generalize hPQ : LoopPostS _ _ _ _ _ _ _ = PQ
   by_cases hi : i < n
   case neg =>
     have : i = n := by omega
     subst this
     have hle := fun k => eHh.rowLe k (db.map Lsa.H)
     have e : db.take i = db := List.take_of_length_le (by omega)
     have hz : ¬ i = 0 := by omega
     simp [hn, hz]
     rw [← hPQ]
     simp only [LoopPostS]
     have e2 : (db.map Lsa.H).take i = db.map Lsa.H := List.take_of_length_le (by simp; omega)
     simp [hz, hle, e2]
   obtain ⟨x, hx, hd⟩ := get_drop (l := db) (i := i) (by omega)
   clear hd
   have w1 : IntKind.i64.wrap ((i : Int) + 1) = i + 1 := wrap_in (by omega)
   have htk : (db.take (i + 1)).map Lsa.H = (db.take i).map Lsa.H ++ [x.H] := by rw [List.take_add_one, hx]; simp
   have s1 : i + 1 ≤ 140737488355328 := by omega
   have s2 : (i + 1) * 56 ≤ 140737488355328 := by omega
   have hrl : ((db.take i).map Lsa.H).length = i := by simp; omega
   have htr := fun l => eHh.rowTree l
   by_cases hz : i = 0
   · subst hz
     have w0 : IntKind.i64.wrap 1 = 1 := by decide
     have hL : ∀ c : List AVal, c.all AVal.tree = true → LeCellsS (swp 0 1) 2 1 c c := fun c hc => treeCellsS hc
     have h1x := hL (rowC ceH [x.H]) (eHh.rowTree _)
     rw [rowC_one] at h1x
     have htk1 : (db.take 1).map Lsa.H = [x.H] := by simpa using htk
     simp [hn, hi, hx, gE hx, w0]
     rw [← hPQ]
     simp only [LoopPostS]
     refine ⟨1, by omega, by omega, .inr ⟨0, 1, Nat.zero_le _, Nat.zero_le _, by simp, by simp, Nat.zero_le _, ?_, ?_⟩⟩
     · simp [LeLookS, ren, ren0, swp]
     · simp only [Nat.succ_ne_zero, if_false, htk1, rowC_one]
       simp [LeBoxesS, swpH]
       exact h1x
   · generalize (db.take i).map Lsa.H = r at *
     have hfl := eHh.rowLen r
     rw [hrl] at hfl
     have hsc : (rowC ceH r).all (fun c => c.scalar && !c.isOwn) = true := by
       have : ∀ l : List Hdr, (rowC ceH l).all (fun c => c.scalar && !c.isOwn) = true := by
         intro l
         induction l with
         | nil => rfl
         | cons y l ih => rw [rowC_cons, List.all_append, ih]; rfl
       exact this r
     simp only [AVal.isOwn] at hsc
     have hi0 : 0 < i := by omega
     have hi' : (i : Int) < n := by omega
     have ht7 : (rowC ceH r).take (i * 7) = rowC ceH r := List.take_of_length_le (by omega)
     have hL := treeCellsS (σ := swp 0 2) (N := 3) (n := 1) (eHh.rowTree (r ++ [x.H]))
     have hpos : 0 < i * 7 := by omega
     have hrn : rowC ceH r ≠ [] := by intro e; rw [e] at hfl; simp at hfl; omega
     simp [hrn, hn, hi, hi', hi0, hz, hx, gE hx, hfl, hpos, s1, s2, hsc, ht7, -List.all_eq_true]
     rw [← hPQ]
     simp only [LoopPostS]
     refine ⟨i + 1, by omega, by omega, .inr ⟨0, 2, Nat.zero_le _, Nat.zero_le _, by simp, by simp, Nat.zero_le _, ?_, ?_⟩⟩
     · simp [LeLookS, ren, ren0, swp, w1]
     · simp only [Nat.succ_ne_zero, if_false, htk]
       simp [LeBoxesS, swpH]
       rw [rowC_app, rowC_one] at hL ⊢
       exact hL
end Go.Proofs.Ytfngaildaoahpaa

/- The exchange of databases, by the program: the record. -/
namespace Go.Proofs.Ytfngaildaoahpaa
open Go Go.Am
theorem lend98 {H : List (List AVal)} {id : Nat} {l : List Hdr} {n : Nat} (hid : H[id]? = some (rowC ceH l)) (hn : l.length = n) (h0 : 0 < n) (hlen : n < 1099511627776) (hs : ascH l) (g : Hdr) :
   CFun Try.prog 98 [.osl id 0 n none 7, encH g, .fn 99 [] []] H (.tup [.int .i64 (posH l (keyH g)), .bool (fndH l (keyH g))]) H := by
 have h := x98 l n hn hlen hs g
 have hfl := eHh.rowLen l
 rw [hn] at hfl
 have hne : rowC ceH l ≠ [] := by
   intro e
   rw [e] at hfl
   simp at hfl
   omega
 have e : frzV id (rowC ceH l) true false (.osl id 0 n none 7) = .sl 7 (l.map encH) .sh := by
   simp only [frzV, frz1]
   rw [if_pos ⟨trivial, by omega, by omega, .inl trivial⟩, eHh.chunk l n hn]
   rfl
 have := CFun.lend (args := [.osl id 0 n none 7, encH g, .fn 99 [] []]) (id := id) (cs := rowC ceH l) (cs0 := rowC ceH l) (ag := true) (x := .tup [.int .i64 (posH l (keyH g)), .bool (fndH l (keyH g))]) (f := 98) (P := Try.prog) (by simp only [List.map_cons, List.map_nil, e]; exact h) hid hne (fun _ _ h => h) (Nat.le_refl _) (eHh.rowTree l) (by simp only [List.map_cons, List.map_nil, e]; rfl) rfl
 exact this
theorem putH_fnd {x : Hdr} {r : List Hdr} (hr : ascH r) (h : fndH r (keyH x) = true) : putH x r = r.set (posH r (keyH x)) x := by
 rw [← putH_R x hr, putRH, if_pos h]
theorem putH_ins {x : Hdr} {r : List Hdr} (hr : ascH r) (h : fndH r (keyH x) = false) : putH x r = insL r (posH r (keyH x)) x := by
 rw [← putH_R x hr, putRH, if_neg (by simp [h])]
theorem fndH_lt {r : List Hdr} {k : LKey} (h : fndH r k = true) : posH r k < r.length := by
 unfold fndH at h
 by_cases q : posH r k < r.length
 · exact q
 · rw [List.getElem?_eq_none (by omega)] at h
   simp at h
set_option maxHeartbeats 8000000 in
set_option maxRecDepth 10000 in
theorem x78r (n : Nbr) (db : List Lsa) (p : Pkt) (m : Nat) (hm : p.Heads.length = m) (ha : ascH n.Req) (h0 : 0 < n.Req.length) (hsz : (n.Req.length + m + 1) * 56 ≤ 140737488355328) (hdb : db.length < 1099511627776) (hok : ∀ x ∈ db, okL x) (hbig : n.Req.length + m < 1099511627776) :
   CFun Try.prog 78 [.mix (cellsNx n (.osl 0 0 n.Req.length none 7)), .sl 15 (db.map encA) .sh, encPk p] [rowC ceH n.Req] (encN (recordN n db p)) [[]] := by
 refine CFun.intro (tr := []) (fz := [(503012, 0, true), (503012, 4, true)]) (n := 47) (rs := [.cell 6 26]) Try.func78 rfl (by kernel_rfl) rfl rfl mixed (by kernel_rfl) (by simp) (by simp) ?_
 unfold recordN
 simp [hm]
 refine LoopK.introS (tr := []) mixed (by kernel_rfl)
   (fun q : Nat × List Hdr × Bool => [(1, .sl 15 (db.map encA) .sh), (3, .ptr 1 0), (5, .ptr 2 0), (6, .ptr 3 0), (12, .sl 7 (p.Heads.map encH) .sh), (13, .int .i64 m), (14, .int .i64 q.1)])
   (fun q => if q.2.2 = true then [[], cellsNx n (.osl 4 0 q.2.1.length none 7), cellsPk p, zN, rowC ceH q.2.1] else [rowC ceH q.2.1, cellsNx n (.osl 0 0 q.2.1.length none 7), cellsPk p, zN])
   (fun q => q.1 ≤ m ∧ 0 < q.2.1.length ∧ q.2.1 = recL db (p.Heads.take q.1) n.Req) (fun q => m - q.1) (0, n.Req, false) ?_ ?_ ?_
 · exact ⟨by omega, h0, by simp [recL]⟩
 · have hle := fun k => eHh.rowLe k n.Req
   simp [zN, hm, hle]
 · rintro ⟨i, r, b⟩ ⟨h1, hr0, h2⟩
   generalize hPQ : LoopPostS _ _ _ _ _ _ _ = PQ
   simp only at h1 hr0 h2
   have hle := fun k => eHh.rowLe k r
   have hfl := eHh.rowLen r
   by_cases hi : i < m
   case neg =>
     have : i = m := by omega
     subst this
     rw [List.take_of_length_le (by omega)] at h2
     have hch := eHh.chunk r _ rfl
     have htr := eHh.rowTree r
     have hpos : 0 < r.length * 7 := by omega
     have ht7 : (rowC ceH r).take (r.length * 7) = rowC ceH r := List.take_of_length_le (by omega)
     cases b
     · simp [hm]
       rw [← hPQ]
       simp only [LoopPostS]
       simp [hm, zN, hfl, hch, htr, hpos, ht7, -List.all_eq_true]
       rw [← h2]
       rfl
     · simp [hm]
       rw [← hPQ]
       simp only [LoopPostS]
       simp [hm, zN, hfl, hch, htr, hpos, ht7, -List.all_eq_true]
       rw [← h2]
       rfl
   obtain ⟨x, hx, hd⟩ := get_drop (l := p.Heads) (i := i) (by omega)
   clear hd
   have w1 : IntKind.i64.wrap ((i : Int) + 1) = i + 1 := wrap_in (by omega)
   have hr : ascH r := by rw [h2]; exact recL_asc db _ ha
   have hrl : r.length ≤ n.Req.length + i := by
     have := recL_len db (p.Heads.take i) ha
     rw [← h2] at this
     simp at this
     omega
   have hszr : (r.length + 1) * 56 ≤ 140737488355328 := Nat.le_trans (Nat.mul_le_mul_right 56 (by omega)) hsz
   have hs : recL db (p.Heads.take (i + 1)) n.Req = if cmpD db x = 1 then putH x r else r := by
     rw [List.take_add_one, hx, h2]
     exact recL_snoc db _ x _
   have k1 := fun H => (f36 db _ rfl hdb hok x).up' H rfl rfl
   have hp1 := putH_fnd (x := x) hr
   have hp2 := putH_ins (x := x) hr
   have hlt := fndH_lt (r := r) (k := keyH x)
   have hpl := posH_le r (keyH x)
   have k98 := fun H id (hid : H[id]? = some (rowC ceH r)) => lend98 (H := H) (id := id) hid rfl hr0 (by omega) hr x
   clear h2
   generalize cmpD db x = c at *
   by_cases hc : c = 1
   case neg =>
     rw [if_neg hc] at hs
     cases b
     · simp [hm, hi, hx, gE hx]
       refine ⟨_, _, .inl (by simpa using k1 _), by simp, ?_⟩
       simp [hc, w1]
       rw [← hPQ]
       simp only [LoopPostS]
       refine ⟨(i + 1, r, false), ⟨by omega, hr0, hs.symm⟩, by simp only; omega, .inl ?_⟩
       simp [hle, zN]
     · simp [hm, hi, hx, gE hx]
       refine ⟨_, _, .inl (by simpa using k1 _), by simp, ?_⟩
       simp [hc, w1]
       rw [← hPQ]
       simp only [LoopPostS]
       refine ⟨(i + 1, r, true), ⟨by omega, hr0, hs.symm⟩, by simp only; omega, .inl ?_⟩
       simp [hle, zN]
   rw [if_pos hc] at hs
   generalize hpo : posH r (keyH x) = at_ at *
   generalize fndH r (keyH x) = fnd at *
   cases fnd
   · have hin := nh_insR r at_ _ rfl hszr hpl hr0 x
     have hl1 : (insL r at_ x).length = r.length + 1 := insL_len hpl
     rw [hp2 rfl] at hs
     have hps : 0 < (insL r at_ x).length := by rw [hl1]; exact Nat.succ_pos _
     have hL := fun N n' => treeCellsS (σ := swp 4 5) (N := N) (n := n') (eHh.rowTree (insL r at_ x))
     have hL6 := fun N n' => treeCellsS (σ := swp 4 6) (N := N) (n := n') (eHh.rowTree (insL r at_ x))
     cases b
     · simp [hm, hi, hx, gE hx]
       refine ⟨_, _, .inl (by simpa using k1 _), by simp, ?_⟩
       simp [hc]
       refine ⟨_, _, .inl (by simpa using k98 _ 0 rfl), by simp, ?_⟩
       simp
       have k100 := fun (H : List (List AVal)) (hid : H[0]? = some (rowC ceH r)) => (hin.wk [.osl 0 0 r.length none 7, .int .i64 at_, .sl 7 [.agg (cellsH x)] .full] (by simp) (by simp [All2, LeS, ceH])).atNews (H := H) (id := 0) (H0 := [rowC ceH (insL r at_ x)]) hid (eHh.rowNoid r) rfl (by simp [eHh.rowNoid, -List.all_eq_true]) (by simp [low, low0]) rfl
       refine ⟨_, _, .inl (by simpa [ren, ren0, grow] using k100 _ rfl), by simp, ?_⟩
       simp [w1]
       rw [← hPQ]
       simp only [LoopPostS]
       refine ⟨(i + 1, insL r at_ x, true), ⟨hi, hps, hs.symm⟩, Nat.sub_lt_sub_left hi (Nat.lt_succ_self i), .inr ⟨4, 5, by decide, by decide, by simp, by simp, by simp, ?_, ?_⟩⟩
       · simp [LeLookS, ren, ren0, swp]
       · simp [LeBoxesS, LeCellsS, swpH, ren, ren0, swp, zN, hl1]
         exact hL _ _
     · simp [hm, hi, hx, gE hx]
       refine ⟨_, _, .inl (by simpa using k1 _), by simp, ?_⟩
       simp [hc]
       refine ⟨_, _, .inl (by simpa using k98 _ 4 rfl), by simp, ?_⟩
       simp
       have k100 := fun (H : List (List AVal)) (hid : H[4]? = some (rowC ceH r)) => (hin.wk [.osl 0 0 r.length none 7, .int .i64 at_, .sl 7 [.agg (cellsH x)] .full] (by simp) (by simp [All2, LeS, ceH])).atNews (H := H) (id := 4) (H0 := [rowC ceH (insL r at_ x)]) hid (eHh.rowNoid r) rfl (by simp [eHh.rowNoid, -List.all_eq_true]) (by simp [low, low0]) rfl
       refine ⟨_, _, .inl (by simpa [ren, ren0, grow] using k100 _ rfl), by simp, ?_⟩
       simp [w1]
       rw [← hPQ]
       simp only [LoopPostS]
       refine ⟨(i + 1, insL r at_ x, true), ⟨hi, hps, hs.symm⟩, Nat.sub_lt_sub_left hi (Nat.lt_succ_self i), .inr ⟨4, 6, by decide, by decide, by simp, by simp, by simp, ?_, ?_⟩⟩
       · simp [LeLookS, ren, ren0, swp]
       · simp [LeBoxesS, LeCellsS, swpH, ren, ren0, swp, zN, hl1]
         exact hL6 _ _
   · have hlt := hlt rfl
     rw [hp1 rfl] at hs
     have hset : setR (rowC ceH r) (at_ * 7) (cellsH x) = rowC ceH (r.set at_ x) := eHh.setOne0 r at_ x hlt
     have hlt' : (at_ : Int) < r.length := by omega
     simp only [cellsH, setR] at hset
     have hf7 : at_ * 7 + 7 ≤ r.length * 7 := by omega
     have hle2 := fun k => eHh.rowLe k (r.set at_ x)
     cases b
     · simp [hm, hi, hx, gE hx]
       refine ⟨_, _, .inl (by simpa using k1 _), by simp, ?_⟩
       simp [hc]
       refine ⟨_, _, .inl (by simpa using k98 _ 0 rfl), by simp, ?_⟩
       simp [hlt, hlt', hset, hfl, hf7, w1]
       rw [← hPQ]
       simp only [LoopPostS]
       refine ⟨(i + 1, r.set at_ x, false), ⟨by omega, by simpa using hr0, hs.symm⟩, by simp only; omega, .inl ?_⟩
       simp [hle2, zN]
     · simp [hm, hi, hx, gE hx]
       refine ⟨_, _, .inl (by simpa using k1 _), by simp, ?_⟩
       simp [hc]
       refine ⟨_, _, .inl (by simpa using k98 _ 4 rfl), by simp, ?_⟩
       simp [hlt, hlt', hset, hfl, hf7, w1]
       rw [← hPQ]
       simp only [LoopPostS]
       refine ⟨(i + 1, r.set at_ x, true), ⟨by omega, by simpa using hr0, hs.symm⟩, by simp only; omega, .inl ?_⟩
       simp [hle2, zN]
end Go.Proofs.Ytfngaildaoahpaa

/- slices.Insert of one into nothing. -/
namespace Go.Proofs.Ytfngaildaoahpaa
open Go Go.Am
set_option maxHeartbeats 2000000 in
set_option maxRecDepth 10000 in
theorem nh_ins0 (b : Hdr) : CFun Try.prog 100 [.sl 7 [] .full, .int .i64 0, .sl 7 [.agg (ceH b)] .sh] [] (.osl 0 0 1 none 7) [rowC ceH [b]] := by
 refine CFun.intro (tr := [100025, 100040]) (fz := []) (n := 95) (rs := [.tmp 6]) Try.func100 rfl (by kernel_rfl) rfl rfl mixed (by kernel_rfl) (by simp) (by simp) ?_
 have hle := fun k => eHh.rowLe k [b]
 rw [rowC_one] at hle ⊢
 simp [ceH]
end Go.Proofs.Ytfngaildaoahpaa

/- The exchange of databases, by the program: record, of a neighbor without requests. -/
namespace Go.Proofs.Ytfngaildaoahpaa
open Go Go.Am
set_option maxHeartbeats 8000000 in
set_option maxRecDepth 10000 in
theorem x78z (n : Nbr) (db : List Lsa) (p : Pkt) (m : Nat) (hm : p.Heads.length = m) (hz : n.Req = []) (hsz : (m + 1) * 56 ≤ 140737488355328) (hdb : db.length < 1099511627776) (hok : ∀ x ∈ db, okL x) (hbig : m < 1099511627776) :
   CFun Try.prog 78 [.agg (cellsNx n (.sl 7 [] .full)), .sl 15 (db.map encA) .sh, encPk p] [] (encN (recordN n db p)) [] := by
 refine CFun.intro (tr := []) (fz := [(502012, 3, true)]) (n := 47) (rs := [.cell 6 26]) Try.func78 rfl (by kernel_rfl) rfl rfl mixed (by kernel_rfl) (by simp) (by simp) ?_
 unfold recordN
 rw [hz]
 have ha : ascH [] := List.Pairwise.nil
 simp [hm]
 refine LoopK.introS (tr := []) mixed (by kernel_rfl)
   (fun q : Nat × List Hdr => [(1, .sl 15 (db.map encA) .sh), (3, .ptr 0 0), (5, .ptr 1 0), (6, .ptr 2 0), (12, .sl 7 (p.Heads.map encH) .sh), (13, .int .i64 m), (14, .int .i64 q.1)])
   (fun q => if q.2.length = 0 then [cellsNx n (.sl 7 [] .full), cellsPk p, zN] else [cellsNx n (.osl 3 0 q.2.length none 7), cellsPk p, zN, rowC ceH q.2])
   (fun q => q.1 ≤ m ∧ q.2 = recL db (p.Heads.take q.1) []) (fun q => m - q.1) (0, []) ?_ ?_ ?_
 · exact ⟨by omega, by simp [recL]⟩
 · simp [zN, hm]
 · rintro ⟨i, r⟩ ⟨h1, h2⟩
   generalize hPQ : LoopPostS _ _ _ _ _ _ _ = PQ
   simp only at h1 h2
   have hle := fun k => eHh.rowLe k r
   have hfl := eHh.rowLen r
   by_cases hi : i < m
   case neg =>
     have : i = m := by omega
     subst this
     rw [List.take_of_length_le (by omega)] at h2
     by_cases hr0 : r = []
     · subst hr0
       simp [hm]
       rw [← hPQ]
       simp only [LoopPostS]
       simp [hm, zN]
       rw [← h2]
     · have hr1 : ¬ r.length = 0 := fun e => hr0 (List.length_eq_zero_iff.1 e)
       have hch := eHh.chunk r _ rfl
       have htr := eHh.rowTree r
       have hpos : 0 < r.length * 7 := by omega
       have ht7 : (rowC ceH r).take (r.length * 7) = rowC ceH r := List.take_of_length_le (by omega)
       simp [hm, hr0]
       rw [← hPQ]
       simp only [LoopPostS]
       simp [hm, zN, hfl, hch, htr, hpos, ht7, hr0, -List.all_eq_true]
       rw [← h2]
       rfl
   obtain ⟨x, hx, hd⟩ := get_drop (l := p.Heads) (i := i) (by omega)
   clear hd
   have w1 : IntKind.i64.wrap ((i : Int) + 1) = i + 1 := wrap_in (by omega)
   have hr : ascH r := by rw [h2]; exact recL_asc db _ ha
   have hrl : r.length ≤ i := by
     have := recL_len db (p.Heads.take i) ha
     rw [← h2] at this
     simp at this
     omega
   have hszr : (r.length + 1) * 56 ≤ 140737488355328 := Nat.le_trans (Nat.mul_le_mul_right 56 (by omega)) hsz
   have hs : recL db (p.Heads.take (i + 1)) [] = if cmpD db x = 1 then putH x r else r := by
     rw [List.take_add_one, hx, h2]
     exact recL_snoc db _ x _
   have k1 := fun H => (f36 db _ rfl hdb hok x).up' H rfl rfl
   have hp1 := putH_fnd (x := x) hr
   have hp2 := putH_ins (x := x) hr
   have hlt := fndH_lt (r := r) (k := keyH x)
   have hpl := posH_le r (keyH x)
   clear h2
   generalize cmpD db x = c at *
   by_cases hr0 : r = []
   · subst hr0
     by_cases hc : c = 1
     case neg =>
       rw [if_neg hc] at hs
       simp [hm, hi, hx, gE hx]
       refine ⟨_, _, .inl (by simpa using k1 _), by simp, ?_⟩
       simp [hc, w1]
       rw [← hPQ]
       simp only [LoopPostS]
       refine ⟨(i + 1, []), ⟨by omega, hs.symm⟩, by simp only; omega, .inl ?_⟩
       simp [zN]
     rw [if_pos hc] at hs
     have k98 := fun H => ((x98 [] 0 rfl (by omega) hr x).wk [.sl 7 [] .full, encH x, .fn 99 [] []] (by simp) (by simp [All2, LeS])).up' H rfl rfl
     have e0 : posH [] (keyH x) = 0 := by simpa using hpl
     have e1 : fndH [] (keyH x) = false := by
       cases h : fndH [] (keyH x) with
       | false => rfl
       | true => exact absurd (hlt h) (by simp)
     rw [hp2 e1, e0] at hs
     rw [e0, e1] at k98
     have hin := nh_ins0 x
     have hi1 : insL [] 0 x = [x] := rfl
     rw [hi1] at hs
     have k100 := fun (H : List (List AVal)) => (hin.wk [.sl 7 [] .full, .int .i64 0, .sl 7 [.agg (cellsH x)] .full] (by simp) (by simp [All2, LeS, ceH])).upNew H (eHh.rowNoid [x]) rfl rfl
     have hL := fun N n' => treeCellsS (σ := swp 3 4) (N := N) (n := n') (eHh.rowTree [x])
     simp [hm, hi, hx, gE hx]
     refine ⟨_, _, .inl (by simpa using k1 _), by simp, ?_⟩
     simp [hc]
     refine ⟨_, _, .inl (by simpa using k98 _), by simp, ?_⟩
     simp
     refine ⟨_, _, .inl (by simpa [ren, ren0, grow] using k100 _), by simp, ?_⟩
     simp [w1]
     rw [← hPQ]
     simp only [LoopPostS]
     refine ⟨(i + 1, [x]), ⟨hi, hs.symm⟩, Nat.sub_lt_sub_left hi (Nat.lt_succ_self i), .inr ⟨3, 4, by decide, by decide, by simp, by simp, by simp, ?_, ?_⟩⟩
     · simp [LeLookS, ren, ren0, swp]
     · simp [LeBoxesS, LeCellsS, swpH, ren, ren0, swp, zN]
       exact hL _ _
   have hr1 : 0 < r.length := List.length_pos_iff.2 hr0
   have k98 := fun H (hid : H[3]? = some (rowC ceH r)) => lend98 (H := H) (id := 3) hid rfl hr1 (by omega) hr x
   by_cases hc : c = 1
   case neg =>
     rw [if_neg hc] at hs
     simp [hm, hi, hx, gE hx, hr0]
     refine ⟨_, _, .inl (by simpa using k1 _), by simp, ?_⟩
     simp [hc, w1]
     rw [← hPQ]
     simp only [LoopPostS]
     refine ⟨(i + 1, r), ⟨by omega, hs.symm⟩, by simp only; omega, .inl ?_⟩
     simp [hle, zN, hr0]
   rw [if_pos hc] at hs
   generalize hpo : posH r (keyH x) = at_ at *
   generalize fndH r (keyH x) = fnd at *
   cases fnd
   · have hin := nh_insR r at_ _ rfl hszr hpl hr1 x
     have hl1 : (insL r at_ x).length = r.length + 1 := insL_len hpl
     have hn0 : ¬ insL r at_ x = [] := fun e => by rw [e] at hl1; simp at hl1
     rw [hp2 rfl] at hs
     have hL := fun N n' => treeCellsS (σ := swp 3 5) (N := N) (n := n') (eHh.rowTree (insL r at_ x))
     have k100 := fun (H : List (List AVal)) (hid : H[3]? = some (rowC ceH r)) => (hin.wk [.osl 0 0 r.length none 7, .int .i64 at_, .sl 7 [.agg (cellsH x)] .full] (by simp) (by simp [All2, LeS, ceH])).atNews (H := H) (id := 3) (H0 := [rowC ceH (insL r at_ x)]) hid (eHh.rowNoid r) rfl (by simp [eHh.rowNoid, -List.all_eq_true]) (by simp [low, low0]) rfl
     simp [hm, hi, hx, gE hx, hr0]
     refine ⟨_, _, .inl (by simpa using k1 _), by simp, ?_⟩
     simp [hc]
     refine ⟨_, _, .inl (by simpa using k98 _ rfl), by simp, ?_⟩
     simp
     refine ⟨_, _, .inl (by simpa [ren, ren0, grow] using k100 _ rfl), by simp, ?_⟩
     simp [w1]
     rw [← hPQ]
     simp only [LoopPostS]
     refine ⟨(i + 1, insL r at_ x), ⟨hi, hs.symm⟩, Nat.sub_lt_sub_left hi (Nat.lt_succ_self i), .inr ⟨3, 5, by decide, by decide, by simp, by simp, by simp [hn0], ?_, ?_⟩⟩
     · simp [LeLookS, ren, ren0, swp, hn0]
     · simp [LeBoxesS, LeCellsS, swpH, ren, ren0, swp, zN, hl1, hn0]
       exact hL _ _
   · have hlt := hlt rfl
     rw [hp1 rfl] at hs
     have hset : setR (rowC ceH r) (at_ * 7) (cellsH x) = rowC ceH (r.set at_ x) := eHh.setOne0 r at_ x hlt
     have hlt' : (at_ : Int) < r.length := by omega
     simp only [cellsH, setR] at hset
     have hf7 : at_ * 7 + 7 ≤ r.length * 7 := by omega
     have hle2 := fun k => eHh.rowLe k (r.set at_ x)
     simp [hm, hi, hx, gE hx, hr0]
     refine ⟨_, _, .inl (by simpa using k1 _), by simp, ?_⟩
     simp [hc]
     refine ⟨_, _, .inl (by simpa using k98 _ rfl), by simp, ?_⟩
     simp [hlt, hlt', hset, hfl, hf7, w1]
     rw [← hPQ]
     simp only [LoopPostS]
     refine ⟨(i + 1, r.set at_ x), ⟨by omega, hs.symm⟩, by simp only; omega, .inl ?_⟩
     simp [hle2, zN, hr0]
end Go.Proofs.Ytfngaildaoahpaa

/- The exchange of databases, by the program: a step that does not apply. -/
namespace Go.Proofs.Ytfngaildaoahpaa
open Go Go.Am
theorem LeBoxes_pre {n : Nat} {X : List (List AVal)} : ∀ {A E : List (List AVal)}, LeBoxes n A E → LeBoxes n (A ++ X) E
 | _, [], _ => by simp [LeBoxes]
 | [], e :: E, h => by
   have h' : e = [] ∧ LeBoxes n [] E := h
   cases X with
   | nil => exact h
   | cons x X =>
     obtain ⟨rfl, h2⟩ := h'
     exact ⟨by cases x <;> simp [LeCells], by simpa using LeBoxes_pre (X := X) h2⟩
 | a :: A, e :: E, h => ⟨h.1, LeBoxes_pre h.2⟩
set_option maxHeartbeats 4000000 in
set_option maxRecDepth 10000 in
theorem y75f (n : Nbr) (rq : AVal) (E : List (List AVal)) (self : Int) (db : List Lsa) (p : Pkt) (h : isFst p self = false) (hlow : low (E.length + 1) rq = true) (hE : LeBoxes (E.length + 1) E E) : CFun Try.prog 75 [.ptr 0 0] (cellsZ0 n rq self db p :: E) (.bool false) (cellsZ0 n rq self db p :: E) := by
 refine CFun.intro (tr := [900001000036, 900002000036, 1500036]) (fz := []) (n := 69) (rs := [.tmp 2]) Try.func75 rfl (by kernel_rfl) rfl rfl mixed (by kernel_rfl) (by simp) (by simp) ?_
 unfold isFst at h
 cases c1 : p.Init with
 | false =>
   simp [c1]
   exact ⟨⟨LeV_refl rq, hlow⟩, LeBoxes_pre hE⟩
 | true =>
   cases c2 : p.More with
   | false =>
     simp [c1, c2]
     exact ⟨⟨LeV_refl rq, hlow⟩, LeBoxes_pre hE⟩
   | true =>
     cases c3 : p.Master with
     | false =>
       simp [c1, c2, c3]
       exact ⟨⟨LeV_refl rq, hlow⟩, LeBoxes_pre hE⟩
     | true =>
       by_cases c4 : p.Heads = []
       case neg =>
         have c4' : 0 < p.Heads.length := List.length_pos_iff.2 c4
         simp [c1, c2, c3, c4, c4']
         exact ⟨⟨LeV_refl rq, hlow⟩, LeBoxes_pre hE⟩
       have c5 : p.Router ≤ self := by simp [c1, c2, c3, c4] at h; omega
       simp [c1, c2, c3, c4, c5]
       exact ⟨⟨LeV_refl rq, hlow⟩, LeBoxes_pre hE⟩
set_option maxHeartbeats 4000000 in
set_option maxRecDepth 10000 in
theorem y76f (n : Nbr) (rq : AVal) (E : List (List AVal)) (self : Int) (db : List Lsa) (p : Pkt) (h : isAnsw n p self = false) (hlow : low (E.length + 1) rq = true) (hE : LeBoxes (E.length + 1) E E) : CFun Try.prog 76 [.ptr 0 0] (cellsZ0 n rq self db p :: E) (.bool false) (cellsZ0 n rq self db p :: E) := by
 refine CFun.intro (tr := []) (fz := []) (n := 78) (rs := [.tmp 2]) Try.func76 rfl (by kernel_rfl) rfl rfl mixed (by kernel_rfl) (by simp) (by simp) ?_
 unfold isAnsw at h
 cases c1 : p.Init with
 | true =>
   simp [c1]
   exact ⟨⟨LeV_refl rq, hlow⟩, LeBoxes_pre hE⟩
 | false =>
   cases c2 : p.Master with
   | true =>
     simp [c1, c2]
     exact ⟨⟨LeV_refl rq, hlow⟩, LeBoxes_pre hE⟩
   | false =>
     by_cases c3 : p.Seq = n.Seq
     case neg =>
       simp [c1, c2, c3]
       exact ⟨⟨LeV_refl rq, hlow⟩, LeBoxes_pre hE⟩
     have c5 : self ≤ p.Router := by simp [c1, c2, c3] at h; omega
     simp [c1, c2, c3, c5]
     exact ⟨⟨LeV_refl rq, hlow⟩, LeBoxes_pre hE⟩
set_option maxHeartbeats 4000000 in
set_option maxRecDepth 10000 in
theorem y45f (n : Nbr) (hq : inI (n.Seq + 1)) (rq : AVal) (E : List (List AVal)) (self : Int) (db : List Lsa) (p : Pkt) (h : ¬ isSlav n p) (hlow : low (E.length + 1) rq = true) (hE : LeBoxes (E.length + 1) E E) : CFun Try.prog 45 [.ptr 0 0] (cellsZ0 n rq self db p :: E) (.bool false) (cellsZ0 n rq self db p :: E) := by
 refine CFun.intro (tr := []) (fz := []) (n := 77) (rs := [.tmp 2]) Try.func45 rfl (by kernel_rfl) rfl rfl mixed (by kernel_rfl) (by simp) (by simp) ?_
 have w1 : IntKind.i64.wrap (n.Seq + 1) = n.Seq + 1 := wrap_in hq
 unfold isSlav at h
 by_cases c1 : n.State = 4
 case neg =>
   simp [c1]
   exact ⟨⟨LeV_refl rq, hlow⟩, LeBoxes_pre hE⟩
 cases c2 : n.Master with
 | true =>
   simp [c1, c2]
   exact ⟨⟨LeV_refl rq, hlow⟩, LeBoxes_pre hE⟩
 | false =>
   cases c3 : p.Master with
   | false =>
     simp [c1, c2, c3]
     exact ⟨⟨LeV_refl rq, hlow⟩, LeBoxes_pre hE⟩
   | true =>
     cases c4 : p.Init with
     | true =>
       simp [c1, c2, c3, c4]
       exact ⟨⟨LeV_refl rq, hlow⟩, LeBoxes_pre hE⟩
     | false =>
       have c5 : ¬ p.Seq = n.Seq + 1 := by simp [c1, c2, c3, c4] at h; omega
       simp [c1, c2, c3, c4, c5, w1]
       exact ⟨⟨LeV_refl rq, hlow⟩, LeBoxes_pre hE⟩
set_option maxHeartbeats 4000000 in
set_option maxRecDepth 10000 in
theorem y46f (n : Nbr) (rq : AVal) (E : List (List AVal)) (self : Int) (db : List Lsa) (p : Pkt) (h : ¬ isMast n p) (hlow : low (E.length + 1) rq = true) (hE : LeBoxes (E.length + 1) E E) : CFun Try.prog 46 [.ptr 0 0] (cellsZ0 n rq self db p :: E) (.bool false) (cellsZ0 n rq self db p :: E) := by
 refine CFun.intro (tr := []) (fz := []) (n := 86) (rs := [.tmp 2]) Try.func46 rfl (by kernel_rfl) rfl rfl mixed (by kernel_rfl) (by simp) (by simp) ?_
 unfold isMast at h
 by_cases c1 : n.State = 4
 case neg =>
   simp [c1]
   exact ⟨⟨LeV_refl rq, hlow⟩, LeBoxes_pre hE⟩
 cases c2 : n.Master with
 | false =>
   simp [c1, c2]
   exact ⟨⟨LeV_refl rq, hlow⟩, LeBoxes_pre hE⟩
 | true =>
   cases c3 : p.Master with
   | true =>
     simp [c1, c2, c3]
     exact ⟨⟨LeV_refl rq, hlow⟩, LeBoxes_pre hE⟩
   | false =>
     cases c4 : p.Init with
     | true =>
       simp [c1, c2, c3, c4]
       exact ⟨⟨LeV_refl rq, hlow⟩, LeBoxes_pre hE⟩
     | false =>
       have c5 : ¬ p.Seq = n.Seq := by simp [c1, c2, c3, c4] at h; omega
       simp [c1, c2, c3, c4, c5]
       exact ⟨⟨LeV_refl rq, hlow⟩, LeBoxes_pre hE⟩
end Go.Proofs.Ytfngaildaoahpaa

/- The exchange of databases, by the program: what a database presents. -/
namespace Go.Proofs.Ytfngaildaoahpaa
open Go Go.Am
set_option maxHeartbeats 1000000 in
set_option maxRecDepth 10000 in
theorem x109 (x : Hdr) : CFun Try.prog 109 [encH x] [] (.bool (decide (3600 ≤ x.Age))) [] := by
 refine CFun.intro (tr := []) (fz := []) (n := 6) (rs := [.tmp 2]) Try.func109 rfl (by kernel_rfl) rfl rfl mixed (by kernel_rfl) (by simp) (by simp) ?_
 simp
set_option maxHeartbeats 1000000 in
set_option maxRecDepth 10000 in
theorem x108z : CFun Try.prog 108 [.sl 15 [] .sh] [] (.sl 0 [] .full) [] := by
 refine CFun.intro (tr := []) (fz := []) (n := 19) (rs := [.tmp 2]) Try.func108 rfl (by kernel_rfl) rfl rfl mixed (by kernel_rfl) (by simp) (by simp) ?_
 simp
 refine LoopK.intro (tr := []) mixed (by kernel_rfl) (fun _ : Nat => [(3, .sl 0 [] .full), (7, .int .i64 0), (8, .int .i64 0)]) (fun _ => []) (fun i => i = 0) (fun i => i) 0 ?_ ?_ ?_
 · simp
 · simp
 · rintro i rfl
   simp
theorem young_eq : (fun h : Hdr => !decide (3600 ≤ h.Age)) = fun h : Hdr => decide (h.Age < 3600) := by
 funext h
 rw [Bool.eq_iff_iff]
 simp
set_option maxHeartbeats 2000000 in
set_option maxRecDepth 10000 in
theorem x96 (db : List Lsa) (hdb : db.length * 136 ≤ 140737488351232) : CFun Try.prog 96 [.sl 15 (db.map encA) .sh] [] (.sl 7 ((youngD db).map encH) .sh) [] := by
 by_cases hz : db = []
 · subst hz
   refine CFun.intro (tr := []) (fz := []) (n := 6) (rs := [.tmp 2]) Try.func96 rfl (by kernel_rfl) rfl rfl mixed (by kernel_rfl) (by simp) (by simp) ?_
   have k63 := (dh_del0 109 [] [] rfl rfl (fun h => decide (3600 ≤ h.Age)) (fun x => x109 x)).wk [.sl 0 [] .full, .fn 109 [] []] (by simp) (by simp [All2, LeS])
   simp
   refine ⟨_, _, .inl x108z, by simp, ?_⟩
   simp
   refine ⟨_, _, .inl k63, by simp, ?_⟩
   simp [youngD]
 · obtain ⟨n, hn⟩ : ∃ n, db.length = n := ⟨_, rfl⟩
   have h0 : 0 < n := by have := List.length_pos_iff.2 hz; omega
   refine CFun.intro (tr := []) (fz := [(2, 0, true)]) (n := 6) (rs := [.tmp 2]) Try.func96 rfl (by kernel_rfl) rfl rfl mixed (by kernel_rfl) (by simp) (by simp) ?_
   have k108 := x108r db n hn h0 (by omega)
   have hml : (db.map Lsa.H).length = n := by simpa using hn
   have k63 := dh_delN (db.map Lsa.H) n hml h0 (by omega) (fun h => decide (3600 ≤ h.Age)) 109 [] [] rfl rfl (fun x => x109 x)
   rw [young_eq] at k63
   have hY : youngD db = (db.map Lsa.H).filter fun h => decide (h.Age < 3600) := rfl
   have hfl : ((db.map Lsa.H).filter fun h => decide (h.Age < 3600)).length ≤ n := by rw [← hml]; exact List.length_filter_le _ _
   have hdl : (delRow ceH 7 (fun h : Hdr => decide (3600 ≤ h.Age)) (db.map Lsa.H)).length = n * 7 := by
     have := List.length_filter_le (fun h : Hdr => !decide (3600 ≤ h.Age)) (db.map Lsa.H)
     simp only [delRow, List.length_append, eHh.rowLen, List.length_replicate]
     rw [hml] at *
     omega
   have hdt : (delRow ceH 7 (fun h : Hdr => decide (3600 ≤ h.Age)) (db.map Lsa.H)).take (((db.map Lsa.H).filter fun h => decide (h.Age < 3600)).length * 7) = rowC ceH ((db.map Lsa.H).filter fun h => decide (h.Age < 3600)) := by
     rw [delRow, young_eq, List.take_append_of_le_length (by rw [eHh.rowLen]; omega), List.take_of_length_le (by rw [eHh.rowLen]; omega)]
   rw [hY]
   generalize (db.map Lsa.H).filter (fun h => decide (h.Age < 3600)) = W at *
   generalize delRow ceH 7 (fun h : Hdr => decide (3600 ≤ h.Age)) (db.map Lsa.H) = D at *
   have hch := eHh.chunk W _ rfl
   have htr := eHh.rowTree W
   have hL2 := eHh.rowLen W
   have hpos : 0 < n * 7 := by omega
   simp
   refine ⟨_, _, .inl k108, by simp, ?_⟩
   simp
   refine ⟨_, _, .inl k63, by simp, ?_⟩
   simp [hdl, hdt, hL2, hch, htr, hpos, -List.all_eq_true]
   exact fun _ _ => rfl
end Go.Proofs.Ytfngaildaoahpaa

/- The exchange of databases, by the program: the answer of a slave to the first packet. -/
namespace Go.Proofs.Ytfngaildaoahpaa
open Go Go.Am
def answC (n : Nbr) (db : List Lsa) (p : Pkt) : Nbr := { recordN { n with State := 4, Lst := youngD db } db p with Seq := n.Seq + 1 }
theorem at44b (n : Nbr) (hs : n.Sent.length * 56 ≤ 140737488351232) (self : Int) (db : List Lsa) (p : Pkt) (E : List (List AVal)) :
   CFun Try.prog 44 [.ptr 0 0] (cellsZ0 n (reqV n) self db p :: E) (.tup []) (cellsS n (reqV n) self db p [pendN n self] :: E) := by
 have := (x44 n hs self db p).at (H := cellsZ0 n (reqV n) self db p :: E) (id := 0) rfl (by simp [noid0]) (by simp [noid0]) (by simp [low, low0]) (by simp [low, low0])
 simpa only [List.map_cons, List.map_nil, ren, ren0, List.set_cons_zero] using this
theorem at78r (n : Nbr) (db : List Lsa) (p : Pkt) (ha : ascH n.Req) (h0 : 0 < n.Req.length) (hsz : (n.Req.length + p.Heads.length + 1) * 56 ≤ 140737488355328) (hdb : db.length < 1099511627776) (hok : ∀ x ∈ db, okL x) (hbig : n.Req.length + p.Heads.length < 1099511627776) (c : List AVal) (E : List (List AVal)) :
   CFun Try.prog 78 [.mix (cellsNx n (.osl 1 0 n.Req.length none 7)), .sl 15 (db.map encA) .sh, encPk p] (c :: rowC ceH n.Req :: E) (encN (recordN n db p)) (c :: [] :: E) := by
 have := (x78r n db p _ rfl ha h0 hsz hdb hok hbig).at (H := c :: rowC ceH n.Req :: E) (id := 1) rfl (eHh.rowNoid _) rfl (by simp [low, low0, low00]) (by simp [low, low0])
 simpa [ren, ren0, ren00] using this
set_option maxHeartbeats 8000000 in
set_option maxRecDepth 10000 in
theorem y76r (n : Nbr) (self : Int) (db : List Lsa) (p : Pkt) (h : isAnsw n p self = true) (h0 : 0 < n.Req.length) (ha : ascH n.Req) (hq : inI (n.Seq + 1)) (hsz : (n.Req.length + p.Heads.length + 1) * 56 ≤ 140737488355328) (hdb : db.length * 136 ≤ 140737488351232) (hok : ∀ x ∈ db, okL x) (hbig : n.Req.length + p.Heads.length < 1099511627776) :
   CFun Try.prog 76 [.ptr 0 0] [cellsZ0 n (.osl 1 0 n.Req.length none 7) self db p, rowC ceH n.Req] (.bool true) [cellsS (batchN (answC n db p)) (reqV (batchN (answC n db p))) self db p [pendN (batchN (answC n db p)) self], []] := by
 refine CFun.intro (tr := [2500056]) (fz := []) (n := 78) (rs := [.tmp 2]) Try.func76 rfl (by kernel_rfl) rfl rfl mixed (by kernel_rfl) (by simp) (by simp) ?_
 unfold isAnsw at h
 simp only [Bool.and_eq_true, decide_eq_true_eq, Bool.not_eq_true'] at h
 obtain ⟨c1, c2, c3, c4⟩ := h
 have hy := youngD_len db
 have k96 := fun H => (x96 db hdb).up' H rfl rfl
 have k78 := at78r { n with State := 4, Lst := youngD db } db p ha h0 hsz (by omega) hok hbig
 have k77 := fun H => (x77 (answC n db p) (by simp only [answC, recordN]; omega)).up' H rfl rfl
 have k44 := at44b (batchN (answC n db p)) (by simp only [answC, batchN, List.length_take]; simp only [recordN]; omega) self db p
 have w1 : IntKind.i64.wrap (n.Seq + 1) = n.Seq + 1 := wrap_in hq
 unfold answC at k77
 have e1 : batchN { recordN { n with State := 4, Lst := youngD db } db p with Seq := n.Seq + 1 } = batchN (answC n db p) := rfl
 rw [e1] at k77
 clear e1
 have e2 : (recordN { n with State := 4, Lst := youngD db } db p).Seq = n.Seq := rfl
 generalize recordN { n with State := 4, Lst := youngD db } db p = rm at *
 generalize youngD db = Y at *
 generalize batchN (answC n db p) = m at *
 generalize pendN m self = q at *
 have hle := fun k => eHh.rowLe k n.Req
 have c6 : ¬ self ≤ p.Router := by omega
 simp [c1, c2, c3, c6]
 refine ⟨_, _, .inl (by simpa using k96 _), by simp, ?_⟩
 simp [c1, c2, c3]
 refine ⟨_, _, .inl (by simpa [c1, c2, c3] using k78 _ _), by simp, ?_⟩
 simp [c1, c2, c3, e2, w1]
 refine ⟨_, _, .inl (by simpa [c1, c2, c3] using k77 _), by simp, ?_⟩
 simp [c1, c2, c3]
 refine ⟨_, _, .inl (by simpa [c1, c2, c3] using k44 _), by simp, ?_⟩
 simp [c1, c2, c3]
end Go.Proofs.Ytfngaildaoahpaa

/- The exchange of databases, by the program: the slave, the exchange goes on. -/
namespace Go.Proofs.Ytfngaildaoahpaa
open Go Go.Am
@[simp] def cellsV (n : Nbr) (x : AVal) (self : Int) (db : List Lsa) (p : Pkt) (out : List Pkt) : List AVal := cellsS0 n x self db p (.sl 18 (out.map encPk) .sh)
theorem slavSent (n : Nbr) (db : List Lsa) (p : Pkt) (hl : n.Lst.length * 56 ≤ 140737488351232) : (slavM n db p).Sent.length * 56 ≤ 140737488351232 := by
 show (n.Lst.take 16).length * 56 ≤ _
 rw [List.length_take]
 omega
set_option maxHeartbeats 8000000 in
set_option maxRecDepth 10000 in
theorem y45r (n : Nbr) (self : Int) (db : List Lsa) (p : Pkt) (h : isSlav n p) (hf : ¬ (p.More = false ∧ (slavM n db p).Lst = [])) (h0 : 0 < n.Req.length) (ha : ascH n.Req) (hq : inI (n.Seq + 1)) (hl : n.Lst.length * 56 ≤ 140737488351232) (hsz : (n.Req.length + p.Heads.length + 1) * 56 ≤ 140737488355328) (hdb : db.length * 136 ≤ 140737488351232) (hok : ∀ x ∈ db, okL x) (hbig : n.Req.length + p.Heads.length < 1099511627776) :
   CFun Try.prog 45 [.ptr 0 0] [cellsZ0 n (.osl 1 0 n.Req.length none 7) self db p, rowC ceH n.Req] (.bool true) [cellsV (slavM n db p) (reqV (slavM n db p)) self db p [pendN (slavM n db p) self], []] := by
 refine CFun.intro (tr := [2500057]) (fz := []) (n := 77) (rs := [.tmp 2]) Try.func45 rfl (by kernel_rfl) rfl rfl mixed (by kernel_rfl) (by simp) (by simp) ?_
 obtain ⟨c1, c2, c3, c4, _, c5'⟩ := h
 have c5 : p.Seq = n.Seq + 1 := by omega
 have k78 := at78r { n with Seq := p.Seq } db p ha h0 hsz (by omega) hok hbig
 have k77 := fun H => (x77 (recordN { n with Seq := p.Seq } db p) (by simp only [recordN]; omega)).up' H rfl rfl
 have k44 := at44b (slavM n db p) (slavSent n db p hl) self db p
 have w1 : IntKind.i64.wrap (n.Seq + 1) = n.Seq + 1 := wrap_in hq
 have e1 : batchN (recordN { n with Seq := p.Seq } db p) = slavM n db p := rfl
 rw [e1] at k77
 clear e1
 generalize recordN { n with Seq := p.Seq } db p = rm at *
 generalize slavM n db p = m at *
 generalize pendN m self = q at *
 have hle := fun k => eHh.rowLe k n.Req
 simp [c1, c2, c3, c4, c5, w1]
 refine ⟨_, _, .inl (by simpa [c1, c2, c3, c4, c5] using k78 _ _), by simp, ?_⟩
 simp [c1, c2, c3, c4, c5]
 refine ⟨_, _, .inl (by simpa [c1, c2, c3, c4, c5] using k77 _), by simp, ?_⟩
 simp [c1, c2, c3, c4, c5]
 refine ⟨_, _, .inl (by simpa [c1, c2, c3, c4, c5] using k44 _), by simp, ?_⟩
 cases hM : p.More
 · have hL : ¬ m.Lst = [] := fun e => hf ⟨hM, e⟩
   have hL' : ¬ m.Lst.length = 0 := fun e => hL (List.length_eq_zero_iff.1 e)
   simp [hM, hL, hL', LeCells, LeV, LeS]
 · simp [hM, LeCells, LeV, LeS]
end Go.Proofs.Ytfngaildaoahpaa
