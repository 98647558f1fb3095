/- The exchange of databases, by the program: the answer of a slave to the first packet, of a neighbor without requests. -/
import Derived.Test.YtfngaildaoahpaaXT7
import Derived.Test.YtfngaildaoahpaaXT23
import Derived.Test.YtfngaildaoahpaaXH3
import Derived.Test.YtfngaildaoahpaaXR1
set_option linter.unusedSimpArgs false
set_option linter.unusedVariables false
namespace Go.Proofs.Ytfngaildaoahpaa
open Go Go.Am
set_option maxHeartbeats 8000000 in
set_option maxRecDepth 10000 in
theorem y76z (n : Nbr) (self : Int) (db : List Lsa) (p : Pkt) (h : isAnsw n p self = true) (hz : n.Req = []) (hq : inI (n.Seq + 1)) (hsz : (p.Heads.length + 1) * 56 ≤ 140737488355328) (hdb : db.length * 136 ≤ 140737488351232) (hok : ∀ x ∈ db, okL x) (hbig : p.Heads.length < 1099511627776) :
   CFun Try.prog 76 [.ptr 0 0] [cellsZ0 n (.sl 7 [] .full) self db p] (.bool true) [cellsS (batchN (answC n db p)) (reqV (batchN (answC n db p))) self db p [pendN (batchN (answC n db p)) self]] := by
 refine CFun.intro (tr := []) (fz := []) (n := 78) (rs := [.tmp 2]) Try.func76 rfl (by kernel_rfl) rfl rfl mixed (by kernel_rfl) (by simp) (by simp) ?_
 unfold isAnsw at h
 simp only [Bool.and_eq_true, decide_eq_true_eq, Bool.not_eq_true'] at h
 obtain ⟨c1, c2, c3, c4⟩ := h
 have hy := youngD_len db
 have k96 := fun H => (x96 db hdb).up' H rfl rfl
 have k78 := fun H => (x78z { n with State := 4, Lst := youngD db } db p _ rfl hz hsz (by omega) hok hbig).up' H rfl rfl
 have k77 := fun H => (x77 (answC n db p) (by simp only [answC, recordN]; omega)).up' H rfl rfl
 have k44 := at44b (batchN (answC n db p)) (by simp only [answC, batchN, List.length_take]; simp only [recordN]; omega) self db p
 have w1 : IntKind.i64.wrap (n.Seq + 1) = n.Seq + 1 := wrap_in hq
 unfold answC at k77
 have e1 : batchN { recordN { n with State := 4, Lst := youngD db } db p with Seq := n.Seq + 1 } = batchN (answC n db p) := rfl
 rw [e1] at k77
 clear e1
 have e2 : (recordN { n with State := 4, Lst := youngD db } db p).Seq = n.Seq := rfl
 generalize recordN { n with State := 4, Lst := youngD db } db p = rm at *
 generalize youngD db = Y at *
 generalize batchN (answC n db p) = m at *
 generalize pendN m self = q at *
 have c6 : ¬ self ≤ p.Router := by omega
 simp [c1, c2, c3, c6]
 refine ⟨_, _, .inl (by simpa using k96 _), by simp, ?_⟩
 simp [c1, c2, c3]
 refine ⟨_, _, .inl (by simpa [c1, c2, c3] using k78 _), by simp, ?_⟩
 simp [c1, c2, c3, e2, w1]
 refine ⟨_, _, .inl (by simpa [c1, c2, c3] using k77 _), by simp, ?_⟩
 simp [c1, c2, c3]
 refine ⟨_, _, .inl (by simpa [c1, c2, c3] using k44 _), by simp, ?_⟩
 simp [c1, c2, c3]
end Go.Proofs.Ytfngaildaoahpaa

/- The exchange of databases, by the program: begin, the answer of a slave. -/
namespace Go.Proofs.Ytfngaildaoahpaa
open Go Go.Am
theorem answ_def (n : Nbr) (db : List Lsa) (p : Pkt) (now : Int) : settleN (batchN (answC n db p)) now = answM n db p now := rfl
set_option maxHeartbeats 8000000 in
set_option maxRecDepth 10000 in
theorem y42r (n : Nbr) (ok : okN n) (hne : n.Req ≠ []) (ha : ascH n.Req) (self : Int) (db : List Lsa) (p : Pkt) (now : Int) (hw : inI (now + 5)) (hq : inI (n.Seq + 1)) (h : isFst p self = false) (h2 : isAnsw n p self = true) (hsz : (n.Req.length + p.Heads.length + 1) * 56 ≤ 140737488355328) (hdb : db.length * 136 ≤ 140737488351232) (hok : ∀ x ∈ db, okL x) (hbig : n.Req.length + p.Heads.length < 1099511627776) :
   CFun Try.prog 42 [encN n, .int .u32 self, .sl 15 (db.map encA) .sh, encPk p, .int .i64 now] [] (.tup [encN (answM n db p now), .sl 18 ([pendN (answM n db p now) self].map encPk) .sh, .int .i64 0]) [] := by
 refine CFun.intro (tr := [900001000030, 900002000030, 3500030]) (fz := []) (n := 40) (rs := [.cell 10 26, .tmp 11, .tmp 12]) Try.func42 rfl (by kernel_rfl) rfl rfl mixed (by kernel_rfl) (by simp) (by simp) ?_
 have h0 : 0 < n.Req.length := List.length_pos_iff.2 hne
 have hnoid := eHh.rowNoid n.Req
 have hle := fun k => eHh.rowLe k n.Req
 have k43 := (x43r n ok hne).upAll [cellsN n, cellsPk p, zN] (by simp [eHh.rowNoid, -List.all_eq_true]) rfl rfl
 have k75 := (y75f n (.osl 1 0 n.Req.length none 7) [rowC ceH n.Req] self db p h (by simp [low]) (by simp [LeBoxes, hle])).at2 (H := [cellsN n, cellsPk p, zN, [], [], rowC ceH n.Req, cellsZ0 n (.osl 5 0 n.Req.length none 7) self db p]) (i := 6) (j := 5) (by decide) (by simp [ren0, two]) (by rw [noid0_map hnoid]; rfl) (by simp [low0]) (noid0_alllow hnoid) (by simp [low0]) (noid0_alllow hnoid) (by simp [low]) rfl
 rw [noid0_map hnoid] at k75
 have k76 := (y76r n self db p h2 h0 ha hq hsz hdb hok hbig).at2 (H := [cellsN n, cellsPk p, zN, [], [], rowC ceH n.Req, cellsZ0 n (.osl 5 0 n.Req.length none 7) self db p]) (i := 6) (j := 5) (by decide) (by simp [ren0, two]) (by rw [noid0_map hnoid]; rfl) (by simp [low0]) (noid0_alllow hnoid) (by simp [low0]) (by simp) (by simp [low]) rfl
 have k47 := x47 (batchN (answC n db p)) now hw
 rw [answ_def] at k47
 have e2 : pendN (answM n db p now) self = pendN (batchN (answC n db p)) self := settle_pend _ _ _
 rw [e2]
 clear e2
 generalize pendN (batchN (answC n db p)) self = q at *
 generalize answM n db p now = fm at *
 generalize batchN (answC n db p) = fb at *
 simp
 refine ⟨_, _, .inl (by simpa [ren, ren0, ren00, grow, zN] using k43), by simp, ?_⟩
 simp
 refine ⟨_, _, .inl (by simpa [ren, ren0, two, zN] using k75), by simp, ?_⟩
 simp
 refine ⟨_, _, .inl (by simpa [ren, ren0, two, zN] using k76), by simp, ?_⟩
 simp
 refine ⟨_, by simpa using k47, by simp [noid, noid0], ?_⟩
 simp
end Go.Proofs.Ytfngaildaoahpaa

/- The exchange of databases, by the program: begin, the answer of a slave, of a neighbor without requests; begin. -/
namespace Go.Proofs.Ytfngaildaoahpaa
open Go Go.Am
set_option maxHeartbeats 8000000 in
set_option maxRecDepth 10000 in
theorem y42z (n : Nbr) (ok : okN n) (hz : n.Req = []) (self : Int) (db : List Lsa) (p : Pkt) (now : Int) (hw : inI (now + 5)) (hq : inI (n.Seq + 1)) (h : isFst p self = false) (h2 : isAnsw n p self = true) (hsz : (p.Heads.length + 1) * 56 ≤ 140737488355328) (hdb : db.length * 136 ≤ 140737488351232) (hok : ∀ x ∈ db, okL x) (hbig : p.Heads.length < 1099511627776) :
   CFun Try.prog 42 [encN n, .int .u32 self, .sl 15 (db.map encA) .sh, encPk p, .int .i64 now] [] (.tup [encN (answM n db p now), .sl 18 ([pendN (answM n db p now) self].map encPk) .sh, .int .i64 0]) [] := by
 refine CFun.intro (tr := [900001000030, 900002000030, 3500030]) (fz := []) (n := 40) (rs := [.cell 10 26, .tmp 11, .tmp 12]) Try.func42 rfl (by kernel_rfl) rfl rfl mixed (by kernel_rfl) (by simp) (by simp) ?_
 have k43 := fun H => (x43z n ok hz).up' H rfl rfl
 have k75 := (y75f n (.sl 7 [] .full) [] self db p h (by simp [low]) (by simp [LeBoxes])).at (H := [cellsN n, cellsPk p, zN, cellsZ0 n (.sl 7 [] .full) self db p]) (id := 3) rfl (by simp [noid0]) (by simp [noid0]) (by simp [low]) (by simp [low])
 have k76 := (y76z n self db p h2 hz hq hsz hdb hok hbig).at (H := [cellsN n, cellsPk p, zN, cellsZ0 n (.sl 7 [] .full) self db p]) (id := 3) rfl (by simp [noid0]) (by simp [noid0]) (by simp [low]) (by simp [low])
 have k47 := x47 (batchN (answC n db p)) now hw
 rw [answ_def] at k47
 have e2 : pendN (answM n db p now) self = pendN (batchN (answC n db p)) self := settle_pend _ _ _
 rw [e2]
 clear e2
 generalize pendN (batchN (answC n db p)) self = q at *
 generalize answM n db p now = fm at *
 generalize batchN (answC n db p) = fb at *
 simp
 refine ⟨_, _, .inl (by simpa using k43 _), by simp, ?_⟩
 simp
 refine ⟨_, _, .inl (by simpa [ren, ren0, zN] using k75), by simp, ?_⟩
 simp
 refine ⟨_, _, .inl (by simpa [ren, ren0, zN] using k76), by simp, ?_⟩
 simp
 refine ⟨_, by simpa using k47, by simp [noid, noid0], ?_⟩
 simp
theorem x42 (n : Nbr) (ok : okN n) (ha : ascH n.Req) (self : Int) (db : List Lsa) (p : Pkt) (now : Int) (hw : inI (now + 5)) (hq : inI (n.Seq + 1)) (hsz : (n.Req.length + p.Heads.length + 1) * 56 ≤ 140737488355328) (hdb : db.length * 136 ≤ 140737488351232) (hok : ∀ x ∈ db, okL x) (hbig : n.Req.length + p.Heads.length < 1099511627776) :
   CFun Try.prog 42 [encN n, .int .u32 self, .sl 15 (db.map encA) .sh, encPk p, .int .i64 now] [] (.tup [encN (firstA n self db p now).1, .sl 18 ((firstA n self db p now).2.1.map encPk) .sh, .int .i64 (firstA n self db p now).2.2]) [] := by
 unfold firstA
 cases h : isFst p self with
 | true => exact y42a n ok self db p now hw h hdb
 | false =>
   cases h2 : isAnsw n p self with
   | false => exact y42c n ok self db p now h h2
   | true =>
     by_cases hz : n.Req = []
     · rw [hz] at hsz hbig
       exact y42z n ok hz self db p now hw hq h h2 (by simpa using hsz) hdb hok (by simpa using hbig)
     · exact y42r n ok hz ha self db p now hw hq h h2 hsz hdb hok hbig
end Go.Proofs.Ytfngaildaoahpaa

/- The exchange of databases, by the program: Receive, the first cases. -/
namespace Go.Proofs.Ytfngaildaoahpaa
open Go Go.Am
set_option maxHeartbeats 8000000 in
set_option maxRecDepth 10000 in
theorem y16a (n : Nbr) (ok : okN n) (ha : ascH n.Req) (self : Int) (db : List Lsa) (p : Pkt) (now : Int) (hw : inI (now + 5)) (hq : inI (n.Seq + 1)) (hsz : (n.Req.length + p.Heads.length + 1) * 56 ≤ 140737488355328) (hdb : db.length * 136 ≤ 140737488351232) (hok : ∀ x ∈ db, okL x) (hbig : n.Req.length + p.Heads.length < 1099511627776)
   (hc : p.Kind ≠ 2 ∨ n.State ≤ 3) :
   CFun Try.prog 16 [encN n, .int .u32 self, .sl 15 (db.map encA) .sh, encPk p, .int .i64 now] [] (.tup [encN (recvA n self db p now).1, .sl 18 (((recvA n self db p now).2.1).map encPk) .sh, .int .i64 (recvA n self db p now).2.2]) [] := by
 refine CFun.intro (tr := [900001000052, 900002000052, 3500052, 900001000104, 900002000104, 3500104]) (fz := []) (n := 112) (rs := [.cell 10 26, .tmp 11, .tmp 12]) Try.func16 rfl (by kernel_rfl) rfl rfl mixed (by kernel_rfl) (by simp) (by simp) ?_
 unfold recvA
 by_cases c1 : p.Kind = 2
 case neg => simp [c1, nbr0]
 by_cases c2 : n.State < 3
 · simp [c1, c2, nbr0]
 have c3 : n.State = 3 := by
   rcases hc with h | h
   · exact (h c1).elim
   · omega
 have k := fun H => (x42 n ok ha self db p now hw hq hsz hdb hok hbig).up' H rfl rfl
 generalize firstA n self db p now = fa at *
 simp [c1, c3]
 refine ⟨_, _, .inl (by simpa [c1, c3] using k _), by simp, ?_⟩
 simp
end Go.Proofs.Ytfngaildaoahpaa

/- The exchange of databases, by the program: Receive, in one. -/
namespace Go.Proofs.Ytfngaildaoahpaa
open Go Go.Am
theorem x16 (n : Nbr) (ok : okN n) (self : Int) (db : List Lsa) (p : Pkt) (now : Int) (hw : inI (now + 5)) (hq0 : 0 ≤ n.Seq) (hq : n.Seq < 1099511627776) (ha : ascH n.Req) (hsz : (n.Req.length + p.Heads.length + 1) * 56 ≤ 140737488351232) (hdb : db.length * 136 ≤ 140737488351232) (hok : ∀ x ∈ db, okL x) (hbig : n.Req.length + p.Heads.length < 1099511627776) :
   CFun Try.prog 16 [encN n, .int .u32 self, .sl 15 (db.map encA) .sh, encPk p, .int .i64 now] [] (.tup [encN (recvA n self db p now).1, .sl 18 (((recvA n self db p now).2.1).map encPk) .sh, .int .i64 (recvA n self db p now).2.2]) [] := by
 have hq1 : inI (n.Seq + 1) := by unfold inI; omega
 have hq2 : inI (n.Seq - 1) := by unfold inI; omega
 by_cases c0 : p.Kind ≠ 2 ∨ n.State ≤ 3
 · exact y16a n ok ha self db p now hw hq1 (by omega) hdb hok hbig c0
 have c1 : p.Kind = 2 := Decidable.byContradiction fun h => c0 (.inl h)
 have c2 : 3 < n.State := by
   have : ¬ n.State ≤ 3 := fun h => c0 (.inr h)
   omega
 unfold recvA
 rw [if_neg (show ¬ p.Kind ≠ 2 from fun h => h c1), if_neg (show ¬ n.State < 3 by omega), if_neg (show ¬ n.State = 3 by omega)]
 by_cases n1 : n.Master = false ∧ p.Master = true ∧ p.Seq = n.Seq
 · rw [if_pos n1]
   exact y16b n ok self db p now c1 c2 n1.1 n1.2.1 n1.2.2
 rw [if_neg n1]
 by_cases n2 : n.Master = true ∧ p.Master = false ∧ p.Seq < n.Seq ∧ p.Seq = n.Seq - 1
 · rw [if_pos n2]
   exact y16c n ok self db p now c1 c2 hq2 n2.1 n2.2.1 n2.2.2.2
 rw [if_neg n2]
 by_cases n3 : isSlav n p
 · rw [if_pos n3]
   by_cases hz : n.Req = []
   · exact y16sz n ok hz ha self db p now hw hq1 hq2 hsz hdb hok hbig c1 c2 n3
   · exact y16sr n ok hz ha self db p now hw hq1 hq2 hsz hdb hok hbig c1 c2 n3
 rw [if_neg n3]
 by_cases n4 : isMast n p
 · rw [if_pos n4]
   by_cases hz : n.Req = []
   · exact y16mz n ok hz ha self db p now hw hq1 hq2 hsz hdb hok hbig c1 c2 n4
   · exact y16mr n ok hz ha self db p now hw hq1 hq2 hsz hdb hok hbig c1 c2 n4
 rw [if_neg n4]
 exact y16f n ok self db p now hw hq1 hq2 c1 c2 n1 (fun h => n2 ⟨h.1, h.2.1, by omega, h.2.2⟩) n3 n4
end Go.Proofs.Ytfngaildaoahpaa

/- The law ExchangeReceives, its walk. -/
namespace Go.Proofs.Ytfngaildaoahpaa
open Go Go.Am
end Go.Proofs.Ytfngaildaoahpaa

/- The law ExchangeRequests: what Receive requests. -/
namespace Go.Proofs.Ytfngaildaoahpaa
open Go Go.Am
theorem recL_mem (db : List Lsa) : ∀ (hs : List Hdr) {l : List Hdr}, ascH l → ∀ y ∈ recL db hs l, y ∈ l ∨ y ∈ hs ∧ cmpD db y = 1
 | [], l, _, y, hy => .inl (by simpa [recL] using hy)
 | x :: hs, l, ha, y, hy => by
   simp only [recL, List.foldl_cons] at hy
   by_cases hc : cmpD db x = 1
   · rw [if_pos hc] at hy
     rcases recL_mem db hs (putH_asc (l := x) ha) y hy with h | ⟨h, h2⟩
     · rcases (putH_mem ha y).1 h with rfl | ⟨h, _⟩
       · exact .inr ⟨by simp, hc⟩
       · exact .inl h
     · exact .inr ⟨List.mem_cons_of_mem _ h, h2⟩
   · rw [if_neg hc] at hy
     rcases recL_mem db hs ha y hy with h | ⟨h, h2⟩
     · exact .inl h
     · exact .inr ⟨List.mem_cons_of_mem _ h, h2⟩
end Go.Proofs.Ytfngaildaoahpaa

/- The exchange of databases, both sides: what is asked for and loaded. No program. -/
namespace Go.Proofs.Ytfngaildaoahpaa
open Go Go.Am
theorem cmpH_neg (a b : Hdr) (ha : inI a.Age) (hb : inI b.Age) : cmpH a b = - cmpH b a := by
 have g1 := ageGap_abs a b ha hb
 have g2 := ageGap_abs b a hb ha
 have hs := cmpI_neg a.Seq b.Seq
 have hm := cmpI_neg a.Sum b.Sum
 have hg := cmpI_neg a.Age b.Age
 simp only [cmpH, orL_two, g1, g2, hs, hm, hg]
 generalize cmpI a.Seq b.Seq = s
 generalize cmpI a.Sum b.Sum = m
 generalize cmpI a.Age b.Age = g
 by_cases c1 : s = 0
 · subst c1
   by_cases c2 : m = 0
   · subst c2
     simp
     by_cases c3 : a.Age = 3600
     · by_cases c4 : b.Age = 3600
       · simp [c3, c4]
       · simp [c3, c4]
     · by_cases c4 : b.Age = 3600
       · simp [c3, c4]
       · simp [c3, c4]
         by_cases c5 : a.Age < b.Age
         · have c6 : ¬ b.Age < a.Age := by omega
           simp [c5, c6]
           split <;> simp
         · by_cases c6 : b.Age < a.Age
           · simp [c5, c6]
             split <;> simp
           · have c7 : a.Age = b.Age := by omega
             simp [c7]
   · simp [c2]
 · simp [c1]
theorem find_put {db : List Lsa} (h : asc db) (l : Lsa) (k : LKey) : (putW l db).find? (hasK k) = if keyA l = k then some l else db.find? (hasK k) := by
 have h2 := putW_asc (l := l) h
 split
 · rename_i e
   exact (find_mem h2).2 ⟨(putW_mem h l).2 (.inl rfl), e⟩
 · rename_i e
   cases hf : db.find? (hasK k) with
   | none =>
     refine find_none.2 fun y hy => ?_
     rcases (putW_mem h y).1 hy with rfl | ⟨hy, _⟩
     · exact e
     · exact find_none.1 hf y hy
   | some x =>
     obtain ⟨hx, ex⟩ := (find_mem h).1 hf
     exact (find_mem h2).2 ⟨(putW_mem h x).2 (.inr ⟨hx, fun e2 => e (by rw [← e2]; exact ex)⟩), ex⟩
def hdE (e : List Lsa) : List Hdr := e.map Lsa.H
theorem hdE_asc {e : List Lsa} (h : asc e) : ascH (hdE e) := by
 unfold asc at h
 unfold ascH hdE
 rw [List.pairwise_map]
 exact h
theorem putH_last {x : Hdr} : ∀ {l : List Hdr}, (∀ y ∈ l, ltY (keyH y) (keyH x)) → putH x l = l ++ [x]
 | [], _ => rfl
 | y :: l, h => by
   have h1 := h y (by simp)
   have h2 := ltY_asymm h1
   have h3 : ¬ keyH x = keyH y := fun e => ltY_ne h1 e.symm
   simp only [putH, if_neg h2, if_neg h3, List.cons_append]
   rw [putH_last fun z hz => h z (List.mem_cons_of_mem _ hz)]
theorem recL_filter (db : List Lsa) : ∀ (hs l : List Hdr), ascH (l ++ hs) → recL db hs l = l ++ hs.filter fun h => decide (cmpD db h = 1)
 | [], l, _ => by simp [recL]
 | x :: hs, l, h => by
   have hl : ∀ y ∈ l, ltY (keyH y) (keyH x) := fun y hy => (List.pairwise_append.1 h).2.2 y hy x (by simp)
   by_cases hc : cmpD db x = 1
   · have e : recL db (x :: hs) l = recL db hs (l ++ [x]) := by
       simp only [recL, List.foldl_cons, if_pos hc, putH_last hl]
     rw [e, recL_filter db hs (l ++ [x]) (by simpa using h)]
     simp [hc]
   · have e : recL db (x :: hs) l = recL db hs l := by
       simp only [recL, List.foldl_cons, if_neg hc]
     have h' : ascH (l ++ hs) := h.sublist (List.Sublist.append_left (List.sublist_cons_self x hs) l)
     rw [e, recL_filter db hs l h']
     simp [hc]
theorem recL_app (db : List Lsa) (a b l : List Hdr) : recL db (a ++ b) l = recL db b (recL db a l) := by
 simp [recL]
def reqL (d e : List Lsa) : List Lsa := e.filter fun x => decide (cmpD d x.H = 1)
theorem recL_req (d : List Lsa) {e : List Lsa} (h : asc e) : recL d (hdE e) [] = hdE (reqL d e) := by
 rw [recL_filter d (hdE e) [] (by simpa using hdE_asc h)]
 simp only [List.nil_append, hdE, reqL, List.filter_map]
 rfl
theorem reqL_asc (d : List Lsa) {e : List Lsa} (h : asc e) : asc (reqL d e) := List.Pairwise.sublist List.filter_sublist h
def loadD (d xs : List Lsa) : List Lsa := xs.foldl (fun db x => putW x db) d
theorem loadD_asc : ∀ (xs : List Lsa) {d : List Lsa}, asc d → asc (loadD d xs)
 | [], _, h => h
 | x :: xs, d, h => by
   simp only [loadD, List.foldl_cons]
   exact loadD_asc xs (putW_asc h)
theorem loadD_find : ∀ (xs : List Lsa) {d : List Lsa}, asc d → asc xs → ∀ k, (loadD d xs).find? (hasK k) = (xs.find? (hasK k)).or (d.find? (hasK k))
 | [], d, _, _, k => rfl
 | x :: xs, d, h, hx, k => by
   have hx2 : asc xs := List.Pairwise.of_cons hx
   have e : loadD d (x :: xs) = loadD (putW x d) xs := rfl
   rw [e, loadD_find xs (putW_asc h) hx2 k, find_put h]
   by_cases hk : keyA x = k
   · have hn : xs.find? (hasK k) = none := find_none.2 fun y hy e2 => ltY_ne (List.rel_of_pairwise_cons hx hy) (hk.trans e2.symm)
     have hh : hasK k x = true := by simp [hasK, hk]
     rw [hn, if_pos hk]
     simp [hh]
   · have hh : ¬ hasK k x = true := by simp [hasK, hk]
     rw [if_neg hk]
     simp [hh]
theorem loadD_mem : ∀ (xs : List Lsa) {d : List Lsa}, asc d → ∀ y ∈ loadD d xs, y ∈ xs ∨ y ∈ d
 | [], d, _, y, hy => .inr hy
 | x :: xs, d, h, y, hy => by
   have e : loadD d (x :: xs) = loadD (putW x d) xs := rfl
   rw [e] at hy
   rcases loadD_mem xs (putW_asc h) y hy with h1 | h1
   · exact .inl (List.mem_cons_of_mem _ h1)
   · rcases (putW_mem h y).1 h1 with rfl | ⟨h2, _⟩
     · exact .inl (by simp)
     · exact .inr h2
theorem cmpD_some {db : List Lsa} {h : Hdr} {x : Lsa} (hf : db.find? (hasK (keyH h)) = some x) : cmpD db h = cmpH h x.H := by
 unfold cmpD
 rw [hf]
theorem cmpD_none {db : List Lsa} {h : Hdr} (hf : db.find? (hasK (keyH h)) = none) : cmpD db h = 1 := by
 unfold cmpD
 rw [hf]
theorem cmpD_congr {db db' : List Lsa} {h : Hdr} (hf : db.find? (hasK (keyH h)) = db'.find? (hasK (keyH h))) : cmpD db h = cmpD db' h := by
 unfold cmpD
 rw [hf]
theorem req_apart {d e : List Lsa} (hd : asc d) (he : asc e) (hda : ∀ x ∈ d, inI x.H.Age) (hea : ∀ x ∈ e, inI x.H.Age) {x y : Lsa} (hx : x ∈ reqL d e) (hy : y ∈ reqL e d) : keyA x ≠ keyA y := by
 intro hk
 simp only [reqL, List.mem_filter, decide_eq_true_eq] at hx hy
 have h1 : d.find? (hasK (keyH x.H)) = some y := (find_mem hd).2 ⟨hy.1, hk.symm⟩
 have h2 : e.find? (hasK (keyH y.H)) = some x := (find_mem he).2 ⟨hx.1, hk⟩
 have h3 := hx.2
 have h4 := hy.2
 rw [cmpD_some h1] at h3
 rw [cmpD_some h2] at h4
 have := cmpH_neg x.H y.H (hea x hx.1) (hda y hy.1)
 omega
end Go.Proofs.Ytfngaildaoahpaa
