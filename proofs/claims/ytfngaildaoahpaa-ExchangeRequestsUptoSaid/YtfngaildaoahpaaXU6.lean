/- The law ExchangeRequests: what Receive requests. -/
import Derived.Test.YtfngaildaoahpaaXU3
import Derived.Test.YtfngaildaoahpaaAmTU
import Derived.Test.YtfngaildaoahpaaXDSFacts
import Derived.Test.YtfngaildaoahpaaRows
import Derived.JoinedCond
import Derived.Test.YtfngaildaoahpaaXK5
set_option linter.unusedSimpArgs false
set_option linter.unusedVariables false
namespace Go.Proofs.Ytfngaildaoahpaa
open Go Go.Am
theorem recL_mem (db : List Lsa) : ∀ (hs : List Hdr) {l : List Hdr}, ascH l → ∀ y ∈ recL db hs l, y ∈ l ∨ y ∈ hs ∧ cmpD db y = 1
 | [], l, _, y, hy => .inl (by simpa [recL] using hy)
 | x :: hs, l, ha, y, hy => by
   simp only [recL, List.foldl_cons] at hy
   by_cases hc : cmpD db x = 1
   · rw [if_pos hc] at hy
     rcases recL_mem db hs (putH_asc (l := x) ha) y hy with h | ⟨h, h2⟩
     · rcases (putH_mem ha y).1 h with rfl | ⟨h, _⟩
       · exact .inr ⟨by simp, hc⟩
       · exact .inl h
     · exact .inr ⟨List.mem_cons_of_mem _ h, h2⟩
   · rw [if_neg hc] at hy
     rcases recL_mem db hs ha y hy with h | ⟨h, h2⟩
     · exact .inl h
     · exact .inr ⟨List.mem_cons_of_mem _ h, h2⟩
theorem settle_req (n : Nbr) (now : Int) : (settleN n now).Req = n.Req := by
 unfold settleN
 split
 · rfl
 · split <;> rfl
theorem fin_req (n : Nbr) : (finN n).Req = n.Req := by
 unfold finN
 split <;> rfl
theorem recv_req (n : Nbr) (self : Int) (db : List Lsa) (p : Pkt) (now : Int) : (recvA n self db p now).1.Req = [] ∨ (recvA n self db p now).1.Req = n.Req ∨ (recvA n self db p now).1.Req = recL db p.Heads n.Req := by
 unfold recvA
 split
 · exact .inl rfl
 split
 · exact .inl rfl
 split
 · unfold firstA
   split
   · refine .inr (.inl ?_)
     simp only [firstM, settle_req]
     rfl
   · split
     · refine .inr (.inr ?_)
       simp only [answM, settle_req]
       rfl
     · exact .inl rfl
 split
 · exact .inr (.inl rfl)
 split
 · exact .inr (.inl rfl)
 split
 · refine .inr (.inr ?_)
   unfold slavO
   split
   · simp only [settle_req, fin_req]; rfl
   · simp only [settle_req]; rfl
 split
 · refine .inr (.inr ?_)
   unfold mastO
   split
   · simp only [settle_req, fin_req]; rfl
   · simp only [settle_req]; rfl
 · exact .inl rfl
theorem recv_asc (n : Nbr) (self : Int) (db : List Lsa) (p : Pkt) (now : Int) (ha : ascH n.Req) : ascH (recvA n self db p now).1.Req ∧ ∀ y ∈ (recvA n self db p now).1.Req, y ∈ n.Req ∨ y ∈ p.Heads ∧ cmpD db y = 1 := by
 rcases recv_req n self db p now with h | h | h
 · rw [h]
   exact ⟨List.Pairwise.nil, by simp⟩
 · rw [h]
   exact ⟨ha, fun y hy => .inl hy⟩
 · rw [h]
   exact ⟨recL_asc db _ ha, recL_mem db _ ha⟩
theorem asc_ordH : ∀ {l : List Hdr}, ascH l → ordH l = true
 | [], _ => rfl
 | [_], _ => rfl
 | x :: y :: l, h => by
   simp only [ascH] at h
   have h1 : ltY (keyH x) (keyH y) := List.rel_of_pairwise_cons h (by simp)
   unfold ltY at h1
   simp only [ordH]
   rw [if_neg (by omega)]
   exact asc_ordH (List.Pairwise.of_cons h)
theorem asc_key {l : List Hdr} (ha : ascH l) {x y : Hdr} (hx : x ∈ l) (hy : y ∈ l) (e : keyH x = keyH y) : x = y := by
 induction l with
 | nil => cases hx
 | cons z l ih =>
   simp only [ascH, List.pairwise_cons] at ha
   rcases List.mem_cons.1 hx with h1 | h1
   · rcases List.mem_cons.1 hy with h2 | h2
     · rw [h1, h2]
     · rw [h1] at e
       exact absurd e (ltY_ne (ha.1 y h2))
   · rcases List.mem_cons.1 hy with h2 | h2
     · rw [h2] at e
       exact absurd e.symm (ltY_ne (ha.1 x h1))
     · exact ih ha.2 h1 h2
theorem req_cases {n : Nbr} {db : List Lsa} (ha : ascH n.Req) {h : Hdr} (hm : h ∈ n.Req ∨ cmpD db h = 1) :
   (idxL (hasKH (keyH h)) n.Req 0 = -1 ∧ cmpD db h = 1) ∨ ∃ i x, idxL (hasKH (keyH h)) n.Req 0 = ((i : Nat) : Int) ∧ n.Req[i]? = some x ∧ (x = h ∨ x ≠ h ∧ cmpD db h = 1) := by
 rcases idxL_find (hasKH (keyH h)) n.Req 0 with ⟨h1, _, h3⟩ | ⟨i, x, h1, h2, _, h4, _⟩
 · refine .inl ⟨h1, ?_⟩
   rcases hm with hm | hm
   · have := h3 h hm
     simp [hasKH] at this
   · exact hm
 · refine .inr ⟨i, x, by simpa using h1, h2, ?_⟩
   by_cases e : x = h
   · exact .inl e
   · refine .inr ⟨e, ?_⟩
     rcases hm with hm | hm
     · have hk : keyH x = keyH h := by simpa [hasKH] using h4
       exact absurd (asc_key ha (List.mem_of_getElem? h2) hm hk) e
     · exact hm
end Go.Proofs.Ytfngaildaoahpaa

/- The law ExchangeRequests, its walk. -/
namespace Go.Proofs.Ytfngaildaoahpaa
open Go Go.Am
theorem hdr_ne {x h : Hdr} (hne : x ≠ h) : ¬x.Ty = h.Ty ∨ ¬x.ID = h.ID ∨ ¬x.Len = h.Len ∨ ¬x.Router = h.Router ∨ ¬x.Seq = h.Seq ∨ ¬x.Age = h.Age ∨ ¬x.Sum = h.Sum := by
 refine Classical.byContradiction fun hc => hne ?_
 simp only [not_or, Classical.not_not] at hc
 obtain ⟨a, b, c, d, e, f, g⟩ := hc
 cases x
 cases h
 simp only at a b c d e f g
 rw [a, b, c, d, e, f, g]
set_option maxHeartbeats 8000000 in
set_option maxRecDepth 10000 in
theorem x5 (n : Nbr) (ok : okN n) (self : Int) (db : List Lsa) (okd : ∀ a ∈ db, okD a) (p : Pkt) (hh : ∀ x ∈ p.Heads, okH x) (now : Int) (hsz : (n.Req.length + p.Heads.length + 1) * 56 ≤ 140737488351232) (hdb : db.length * 136 ≤ 140737488351232) (hbig : n.Req.length + p.Heads.length < 1099511627776) :
   CFun Try.prog 5 [encN n, .int .u32 self, .sl 15 (db.map encA) .sh, encPk p, .int .i64 now] [] (.bool true) [] := by
 refine CFun.intro (tr := []) (fz := []) (n := 85) (rs := [.tmp 10]) Try.func5 rfl (by kernel_rfl) rfl rfl mixed (by kernel_rfl) (by simp) (by simp) ?_
 have h9 := fun H => x9.up' H rfl rfl
 have l1 := ok.lst
 have l2 := ok.sent
 have l3 := ok.req
 have l4 := ok.una
 have l5 := ok.hreq
 have hrl : n.Req.length < 8796093022208 := by omega
 have h14 := fun H => (x14 n now (by omega) (by omega)).up' H rfl rfl
 have k15 := fun H => (f24 db _ rfl (by omega) (fun x hx => (okd x hx).1)).up' H rfl rfl
 by_cases hf : fineN n now = true
 case neg =>
   have hf' : fineN n now = false := by simpa using hf
   rw [hf'] at h14
   simp
   refine ⟨_, _, .inl (by simpa using h14 _), by simp, ?_⟩
   simp
   refine ⟨_, _, .inl (h9 _), by simp, ?_⟩
   simp
 rw [hf] at h14
 by_cases hc : chkD db = 0
 case neg =>
   simp
   refine ⟨_, _, .inl (by simpa using h14 _), by simp, ?_⟩
   simp
   refine ⟨_, _, .inl (by simpa using k15 _), by simp, ?_⟩
   simp [hc]
   refine ⟨_, _, .inl (h9 _), by simp, ?_⟩
   simp
 rw [hc] at k15
 obtain ⟨f1, f2, f3, f4, f5, f6⟩ := fineN_ok hf
 have hw : inI (now + 5) := by unfold inI; omega
 have k16 := fun H => (x16 n ok self db p now hw f3 f4 f5 hsz hdb (fun x hx => (okd x hx).2) hbig).up' H rfl rfl
 obtain ⟨⟨s1, s2, s3, s4⟩, ⟨o1, o2⟩⟩ := recv_fine n self db p now ⟨by omega, by omega, by omega, by omega⟩ f5 (by omega) (by omega)
 obtain ⟨a1, a2⟩ := recv_asc n self db p now f5
 clear f6
 generalize recvA n self db p now = rv at *
 obtain ⟨m, l, e⟩ := rv
 simp only at s1 s2 s3 s4 o1 o2 k16 a1 a2
 clear s1 s2 s4 o1 o2
 have k19 := fun H => (x19 m.Req _ rfl s3).up' H rfl rfl
 rw [asc_ordH a1] at k19
 obtain ⟨q, hq⟩ : ∃ q, m.Req.length = q := ⟨_, rfl⟩
 rw [hq] at s3
 simp
 refine ⟨_, _, .inl (by simpa using h14 _), by simp, ?_⟩
 simp
 refine ⟨_, _, .inl (by simpa using k15 _), by simp, ?_⟩
 simp
 refine ⟨_, _, .inl (by simpa using k16 _), by simp, ?_⟩
 by_cases he : e = 0
 case neg =>
   simp [he]
   refine ⟨_, _, .inl (h9 _), by simp, ?_⟩
   simp
 simp [he]
 refine ⟨_, _, .inl (by simpa using k19 _), by simp, ?_⟩
 simp [hq]
 refine LoopK.intro (tr := []) mixed (by kernel_rfl)
   (fun i : Nat => [(2, .sl 15 (db.map encA) .sh), (5, .ptr 0 0), (11, .ptr 2 0), (45, .int .i64 q), (46, .int .i64 i)]) (fun _ => [cellsN n, cellsPk p, cellsN m])
   (fun i => i ≤ q) (fun i => q - i) 0 ?_ ?_ ?_
 · exact Nat.zero_le _
 · simp [hq]
 rintro i i1
 by_cases hi : i < q
 case neg =>
   simp [hi]
   refine ⟨_, _, .inl (h9 _), by simp, ?_⟩
   simp
 obtain ⟨h, hx, hd⟩ := get_drop (l := m.Req) (i := i) (by omega)
 clear hd
 have hmem := List.mem_of_getElem? hx
 have w1 : IntKind.i64.wrap ((i : Int) + 1) = i + 1 := wrap_in (by omega)
 have hage : inI h.Age := by
   rcases a2 h hmem with hm | ⟨hm, _⟩
   · exact (l5 h hm).2.2.2.2.2.1
   · exact (hh h hm).2.2.2.2.2.1
 have k21 := fun H => (c26 h).up' H rfl rfl
 have k20 := fun H => (x20 n.Req _ rfl hrl (keyH h)).up' H rfl rfl
 have k22 := fun H => (f49 db _ rfl (by omega) h hage (fun x hx => (okd x hx).1.1.2.2.2.2.2.1)).up' H rfl rfl
 have hor : h ∈ n.Req ∨ cmpD db h = 1 := (a2 h hmem).imp id And.right
 rcases req_cases (db := db) f5 (h := h) hor with ⟨g1, g2⟩ | ⟨j, x, g1, g2, g3⟩
 · simp only [g1] at k20
   simp only [g2] at k22
   simp [hi, hx, gE hx]
   refine ⟨_, _, .inl (by simpa [hx, gE hx] using k21 _), by simp, ?_⟩
   simp [hx, gE hx]
   refine ⟨_, _, .inl (by simpa [hx, gE hx] using k20 _), by simp, ?_⟩
   simp [hx, gE hx]
   refine ⟨_, _, .inl (by simpa [hx, gE hx] using k22 _), by simp, ?_⟩
   simp [w1]
   exact ⟨i + 1, by omega, by omega, by simp⟩
 · simp only [g1] at k20
   have hj : j < n.Req.length := (List.getElem?_eq_some_iff.1 g2).1
   have hj0 : ¬ (j : Int) < 0 := by omega
   rcases g3 with rfl | ⟨g3, g4⟩
   · simp [hi, hx, gE hx]
     refine ⟨_, _, .inl (by simpa [hx, gE hx] using k21 _), by simp, ?_⟩
     simp [hx, gE hx]
     refine ⟨_, _, .inl (by simpa [hx, gE hx] using k20 _), by simp, ?_⟩
     simp [hx, gE hx, g2, gE g2, hj, hj0, w1]
     exact ⟨i + 1, by omega, by omega, by simp⟩
   · simp only [g4] at k22
     simp [hi, hx, gE hx]
     refine ⟨_, _, .inl (by simpa [hx, gE hx] using k21 _), by simp, ?_⟩
     simp [hx, gE hx]
     refine ⟨_, _, .inl (by simpa [hx, gE hx] using k20 _), by simp, ?_⟩
     simp [hx, gE hx, g2, gE g2, hj, hj0]
     rw [if_pos (hdr_ne g3)]
     refine ⟨_, _, .inl (by simpa [hx, gE hx] using k22 _), by simp, ?_⟩
     simp [w1]
     exact ⟨i + 1, by omega, by omega, by simp⟩
end Go.Proofs.Ytfngaildaoahpaa

/- The second form: what the bound on the arguments' bulk gives. -/
namespace Go.Proofs.Ytfngaildaoahpaa
open Go Go.Am
theorem bulk_one {H : Type} (d : DataW H) : 1 ≤ Rows.uptoBulk d := by
 cases d with
 | lit l => cases l <;> simp [Rows.uptoBulk]
 | nil => simp [Rows.uptoBulk]
 | ptr d => simp [Rows.uptoBulk]
 | slice elems spare => simp [Rows.uptoBulk]
 | agg parts => simp [Rows.uptoBulk]
 | iface t d => simp [Rows.uptoBulk]
 | map entries => simp [Rows.uptoBulk]
 | held h => simp [Rows.uptoBulk]
theorem bulk_len {H : Type} (l : List (DataW H)) : l.length ≤ Rows.uptoBulkAll l := by
 induction l with
 | nil => simp [Rows.uptoBulkAll]
 | cons x r ih => have := bulk_one x; simp only [Rows.uptoBulkAll, List.length_cons]; omega
theorem bulk_part {H : Type} {d : DataW H} {l : List (DataW H)} (h : d ∈ l) : Rows.uptoBulk d ≤ Rows.uptoBulkAll l := by
 induction l with
 | nil => cases h
 | cons x r ih =>
   simp only [Rows.uptoBulkAll]
   cases List.mem_cons.1 h with
   | inl e => subst e; omega
   | inr e => have := ih e; omega
def okB (P : Program) (B : Nat) : Nat → TypeId → Bool
 | 0, _ => false
 | n + 1, t => match P.underlying t with
   | some .bool => true
   | some (.int _) => true
   | some (.slice e) => decide (P.bytesOf e ≤ B) && okB P B n e
   | some (.struct fs) => (fs.toList.map (·.type)).all (okB P B n)
   | some (.array _ e) => okB P B n e
   | _ => false
theorem mem_all {H : Type} {P : Program} {e : TypeId} {m : Nat} : ∀ {ds : List (DataW H)}, m ∈ DataW.weightsAll P e ds → ∃ d ∈ ds, m ∈ d.weights P e
 | [], h => by simp [DataW.weightsAll] at h
 | d :: r, h => by
   simp only [DataW.weightsAll, List.mem_append] at h
   rcases h with h | h
   · exact ⟨d, by simp, h⟩
   · obtain ⟨x, h1, h2⟩ := mem_all h
     exact ⟨x, by simp [h1], h2⟩
theorem mem_each {H : Type} {P : Program} {m : Nat} : ∀ {ts : List TypeId} {ds : List (DataW H)}, m ∈ DataW.weightsEach P ts ds → ∃ t ∈ ts, ∃ d ∈ ds, m ∈ d.weights P t
 | [], ds, h => by cases ds <;> simp [DataW.weightsEach] at h
 | t :: ts, [], h => by simp [DataW.weightsEach] at h
 | t :: ts, d :: r, h => by
   simp only [DataW.weightsEach, List.mem_append] at h
   rcases h with h | h
   · exact ⟨t, by simp, d, by simp, h⟩
   · obtain ⟨u, h1, x, h2, h3⟩ := mem_each h
     exact ⟨u, by simp [h1], x, by simp [h2], h3⟩
theorem wb {H : Type} (P : Program) (B : Nat) (h1 : 1 ≤ B) : ∀ (n : Nat) (t : TypeId), okB P B n t = true → ∀ (d : DataW H) (m : Nat), m ∈ d.weights P t → m ≤ Rows.uptoBulk d * (2 * B) := by
 have up : ∀ {a b : Nat} {m : Nat}, m ≤ a * (2 * B) → a ≤ b → m ≤ b * (2 * B) := fun h h2 => Nat.le_trans h (Nat.mul_le_mul_right _ h2)
 have one : ∀ a : Nat, a ≤ a * (2 * B) := fun a => Nat.le_mul_of_pos_right _ (by omega)
 intro n
 induction n with
 | zero => intro t h; simp [okB] at h
 | succ n ih =>
   intro t h d m hm
   simp only [okB] at h
   cases d with
   | lit l =>
     cases l with
     | string bytes =>
       simp only [DataW.weights, List.mem_singleton] at hm
       subst hm
       exact up (one _) (by simp [Rows.uptoBulk])
     | _ => simp [DataW.weights] at hm
   | nil => simp [DataW.weights] at hm
   | ptr d =>
     simp only [DataW.weights] at hm
     split at hm
     · rename_i e hu
       rw [hu] at h
       simp at h
     · simp at hm
   | slice elems spare =>
     simp only [DataW.weights] at hm
     split at hm
     · rename_i e hu
       rw [hu] at h
       simp only [Bool.and_eq_true, decide_eq_true_eq] at h
       simp only [List.mem_cons, List.mem_append] at hm
       have l1 := bulk_len elems
       have l2 := bulk_len spare
       rcases hm with rfl | hm | hm
       · refine Nat.mul_le_mul ?_ (Nat.le_trans h.1 (by omega))
         simp only [Rows.uptoBulk]; omega
       · obtain ⟨x, hx, hm⟩ := mem_all hm
         have := bulk_part hx
         exact up (ih e h.2 x m hm) (by simp only [Rows.uptoBulk]; omega)
       · obtain ⟨x, hx, hm⟩ := mem_all hm
         have := bulk_part hx
         exact up (ih e h.2 x m hm) (by simp only [Rows.uptoBulk]; omega)
     · simp at hm
   | agg parts =>
     simp only [DataW.weights] at hm
     split at hm
     · rename_i fs hu
       rw [hu] at h
       simp only at h
       obtain ⟨u, hu2, x, hx, hm⟩ := mem_each hm
       have := bulk_part hx
       exact up (ih u (List.all_eq_true.1 h u hu2) x m hm) (by simp only [Rows.uptoBulk]; omega)
     · rename_i k e hu
       rw [hu] at h
       simp only at h
       obtain ⟨x, hx, hm⟩ := mem_all hm
       have := bulk_part hx
       exact up (ih e h x m hm) (by simp only [Rows.uptoBulk]; omega)
     · simp at hm
   | iface t d => simp [DataW.weights] at hm
   | map entries =>
     simp only [DataW.weights] at hm
     split at hm
     · rename_i k e hu
       rw [hu] at h
       simp at h
     · simp at hm
   | held h => simp [DataW.weights] at hm
theorem short_rows {H : Type} {ts : List TypeId} {ds : List (DataW H)} (n : Nat) (ht : ts.all (okB Try.prog 2048 n) = true) (hk : Rows.uptoSmall H ds = true) : (DataW.weightsEach Try.prog ts ds).all (· ≤ AmU.reachU) = true := by
 have h : Rows.uptoBulkAll ds ≤ 1048576 := of_decide_eq_true hk
 rw [List.all_eq_true]
 intro m hm
 obtain ⟨t, h1, d, h2, hm⟩ := mem_each hm
 have := wb Try.prog 2048 (by decide) n t (List.all_eq_true.1 ht t h1) d m hm
 have hb := bulk_part h2
 have h3 : m ≤ 4294967296 := by omega
 exact decide_eq_true h3
end Go.Proofs.Ytfngaildaoahpaa

/- The exchange of databases: neighbors and packets as arguments of the second form. -/
namespace Go.Proofs.Ytfngaildaoahpaa
open Go Go.Am
def csPk : List CTy := [.int .i64, .int .u32, .int .u32, .int .u32, .int .i64, .int .i64, .int .i64, .int .i64, .int .u32, .int .u32, .sl false 4 [.int .u32], .int .i64, .bool, .bool, .bool, .sl true 56 csH, .sl true 32 tyY.2, .sl true 136 csA]
def tyPk : Bool × List CTy := (true, csPk)
theorem rd_Pk {x : AVal} (h : RdA tyPk x) : ∃ p : Pkt, x = encPk p ∧ inI p.Seq ∧ p.Keys.length * 32 ≤ 140737488351232 ∧ p.Heads.length * 56 ≤ 140737488351232 ∧ (∀ x ∈ p.Heads, okH x) := by
 obtain ⟨cs, h1, h⟩ := h
 obtain ⟨a1, r, rfl, h, w1⟩ := Rds_int h
 obtain ⟨a2, r, rfl, h, w2⟩ := Rds_int h
 obtain ⟨a3, r, rfl, h, w3⟩ := Rds_int h
 obtain ⟨a4, r, rfl, h, w4⟩ := Rds_int h
 obtain ⟨e1, r, rfl, h, v1⟩ := Rds_int h
 obtain ⟨e2, r, rfl, h, v2⟩ := Rds_int h
 obtain ⟨e3, r, rfl, h, v3⟩ := Rds_int h
 obtain ⟨e4, r, rfl, h, v4⟩ := Rds_int h
 obtain ⟨e5, r, rfl, h, v5⟩ := Rds_int h
 obtain ⟨e6, r, rfl, h, v6⟩ := Rds_int h
 obtain ⟨e7, r, rfl, h, z7⟩ := Rds_sl (enc := fun x : { x : Int // inW x } => enc32 x.1) h (fun y cs e h => by
   obtain ⟨a, r, rfl, h3, w⟩ := Rds_int h
   obtain rfl := Rds_nil h3
   simp at e
   exact ⟨⟨a, wf_u32 w⟩, e.symm⟩)
 obtain ⟨f1, r, rfl, h, w5⟩ := Rds_int h
 obtain ⟨f2, r, rfl, k1⟩ := Rds_bool h
 obtain ⟨f3, r, rfl, k2⟩ := Rds_bool k1
 obtain ⟨f4, r, rfl, k3⟩ := Rds_bool k2
 obtain ⟨g1, r, rfl, h, z1⟩ := Rds_sl (enc := fun x : { x : Hdr // okH x } => encH x.1) k3 (fun y cs e h => by
   obtain ⟨a, ha, ok⟩ := rd_H (x := y) ⟨cs, e, h⟩
   exact ⟨⟨a, ok⟩, ha⟩)
 obtain ⟨g2, r, rfl, h, z2⟩ := Rds_sl (enc := encY) h (fun y cs e h => rd_Y (x := y) ⟨cs, e, h⟩)
 obtain ⟨g3, r, rfl, h, z3⟩ := Rds_sl (enc := fun x : { x : Lsa // okD x } => encA x.1) h (fun y cs e h => by
   obtain ⟨a, ha, ok⟩ := rd_AD (x := y) ⟨cs, e, h⟩
   exact ⟨⟨a, ok⟩, ha⟩)
 obtain rfl := Rds_nil h
 simp only [reachBytes] at z7 z1 z2 z3
 refine ⟨⟨a1, a2, a3, a4, ⟨e1, e2, e3, e4, e5, e6, e7.map (·.1)⟩, f1, f2, f3, f4, g1.map (·.1), g2, g3.map (·.1)⟩, ?_, wf_i64 w5, by simp; omega, by simp; omega, fun x hx => ?_⟩
 · rw [if_pos (show tyPk.1 = true from rfl)] at h1
   rw [h1]
   simp [Function.comp_def, csH, csA, tyY]
 · obtain ⟨y, _, rfl⟩ := List.mem_map.1 hx
   exact y.2
theorem u_N {x : AVal} (h : AmU.RdA tyN x) : ∃ n : Nbr, x = encN n ∧ okN n ∧ n.Req.length * 56 ≤ 4294967296 := by
 obtain ⟨n, rfl, ok⟩ := rd_N (AmU.RdA_up h)
 refine ⟨n, rfl, ok, ?_⟩
 obtain ⟨cs, h1, h2⟩ := h
 rw [if_pos (show tyN.1 = true from rfl)] at h1
 have e : cs = cellsN n := by
   have := AVal.agg.inj h1
   exact this.symm
 subst e
 have := AmU.Rds_short (ag := true) (b := 56) (e := csH) 12 h2 rfl (k := 7) (ys := n.Req.map encH) (md := .sh) rfl
 simpa [AmU.reachU] using this
theorem u_Pk {x : AVal} (h : AmU.RdA tyPk x) : ∃ p : Pkt, x = encPk p ∧ inI p.Seq ∧ (∀ x ∈ p.Heads, okH x) ∧ p.Heads.length * 56 ≤ 4294967296 := by
 obtain ⟨p, rfl, hs, _, _, hh⟩ := rd_Pk (AmU.RdA_up h)
 refine ⟨p, rfl, hs, hh, ?_⟩
 obtain ⟨cs, h1, h2⟩ := h
 rw [if_pos (show tyPk.1 = true from rfl)] at h1
 have e : cs = cellsPk p := by
   have := AVal.agg.inj h1
   exact this.symm
 subst e
 have := AmU.Rds_short (ag := true) (b := 56) (e := csH) 15 h2 rfl (k := 7) (ys := p.Heads.map encH) (md := .sh) rfl
 simpa [AmU.reachU] using this
theorem u_sum {a b : Nat} (h : a * 56 ≤ 4294967296) (k : b * 56 ≤ 4294967296) : (a + b + 1) * 56 ≤ 140737488351232 ∧ a + b < 1099511627776 := by
 have h1 : a ≤ 76695845 := Nat.le_of_not_lt fun c => absurd (Nat.le_trans (Nat.mul_le_mul_right 56 c) h) (by decide)
 have h2 : b ≤ 76695845 := Nat.le_of_not_lt fun c => absurd (Nat.le_trans (Nat.mul_le_mul_right 56 c) k) (by decide)
 have h3 : a + b + 1 ≤ 153391691 := by omega
 exact ⟨Nat.le_trans (Nat.mul_le_mul_right 56 h3) (by decide), by omega⟩
theorem law5 : ∀ xs, AmU.RdAs [tyN, tyK, tyD, tyPk, tyI] xs → CFun Try.prog 5 xs [] (.bool true) [] := by
 rintro xs ⟨a, r, rfl, ha, b, r, rfl, hb, c, r, rfl, hc, d, r, rfl, hd, e, r, rfl, he, rfl⟩
 obtain ⟨n, rfl, ok, h1⟩ := u_N ha
 obtain ⟨s, rfl, _⟩ := rd_k (AmU.RdA_up hb)
 obtain ⟨db, rfl, okd, h2⟩ := rd_D (AmU.RdA_up hc)
 obtain ⟨p, rfl, _, hh, h3⟩ := u_Pk hd
 obtain ⟨t, rfl, _⟩ := rd_i (AmU.RdA_up he)
 obtain ⟨s1, s2⟩ := u_sum h1 h3
 exact x5 n ok s db okd p hh t s1 h2 s2
end Go.Proofs.Ytfngaildaoahpaa
