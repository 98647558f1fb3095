/- The exchange of databases, both sides: what a side hears; the phases. No program. -/
import Derived.Test.YtfngaildaoahpaaXB1
import Derived.Test.YtfngaildaoahpaaXDS31
set_option linter.unusedSimpArgs false
set_option linter.unusedVariables false
namespace Go.Proofs.Ytfngaildaoahpaa
open Go Go.Am
structure Sd where
  n : Nbr
  id : Int
  db : List Lsa
  inq : List Pkt
def updOne (q : Nbr × List Lsa) (l : Lsa) : Nbr × List Lsa := (gotN q.1 l.H, if cmpD q.2 l.H = 1 then putW l q.2 else q.2)
def hearN (x : Sd) (p : Pkt) (now : Int) : Sd × List Pkt :=
 if p.Kind = 2 then
   if (recvA x.n x.id x.db p now).2.2 ≠ 0 then (x, []) else ({ x with n := (recvA x.n x.id x.db p now).1 }, (recvA x.n x.id x.db p now).2.1)
 else if p.Kind = 3 then
   if (answN x.db p).2 ≠ 0 then (x, []) else (x, (answN x.db p).1.map (pkU 0))
 else if p.Kind = 4 then
   let q := p.Lsas.foldl updOne (x.n, x.db)
   if q.1.State = 5 ∧ q.1.Req.length < x.n.Req.length then ({ x with n := q.1, db := q.2 }, [reqN q.1 x.id]) else ({ x with n := q.1, db := q.2 }, [])
 else (x, [])
structure Co (n : Nbr) (rt st : Int) (ma : Bool) (sq : Int) (lst sent req : List Hdr) : Prop where
  rt : n.Router = rt
  st : n.State = st
  ma : n.Master = ma
  sq : n.Seq = sq
  lst : n.Lst = lst
  sent : n.Sent = sent
  req : n.Req = req
  una : n.Una = []
theorem Co.settle {n : Nbr} {rt st : Int} {ma : Bool} {sq : Int} {lst sent req : List Hdr} (h : Co n rt st ma sq lst sent req) (now : Int) : Co (settleN n now) rt st ma sq lst sent req := by
 unfold settleN
 split
 · exact ⟨h.1, h.2, h.3, h.4, h.5, h.6, h.7, h.8⟩
 · split <;> exact ⟨h.1, h.2, h.3, h.4, h.5, h.6, h.7, h.8⟩
def dat (self sq : Int) (heads : List Hdr) (more ma : Bool) : Pkt := { pkt0 with Kind := 2, Router := self, Seq := sq, Heads := heads, More := more, Master := ma }
def fstP (self sq : Int) : Pkt := { pkt0 with Kind := 2, Router := self, Seq := sq, Init := true, More := true, Master := true }
def reqP (self : Int) (l : List Lsa) : Pkt := { pkt0 with Kind := 3, Router := self, Keys := (l.take 16).map keyA }
theorem Co.pend {n : Nbr} {rt st : Int} {ma : Bool} {sq : Int} {lst sent req : List Hdr} (h : Co n rt st ma sq lst sent req) (h3 : st ≠ 3) (self : Int) : pendN n self = dat self sq sent (decide (0 < lst.length)) ma := by
 unfold pendN
 rw [if_neg (by rw [h.st]; exact h3), h.sq, h.sent, h.lst, h.ma]
 rfl
theorem Co.reqP {n : Nbr} {rt st : Int} {ma : Bool} {sq : Int} {lst sent : List Hdr} {l : List Lsa} (h : Co n rt st ma sq lst sent (hdE l)) (self : Int) : reqN n self = reqP self l := by
 unfold reqN Proofs.Ytfngaildaoahpaa.reqP
 rw [h.req]
 simp only [hdE, List.map_take, List.map_map]
 rfl
def batH (l : List Hdr) (r : Nat) : List Hdr := (l.drop (16 * r)).take 16
def rstH (l : List Hdr) (r : Nat) : List Hdr := l.drop (16 * (r + 1))
theorem batH_pre (l : List Hdr) (r : Nat) : l.take (16 * r) ++ batH l r = l.take (16 * (r + 1)) := by
 unfold batH
 rw [show 16 * (r + 1) = 16 * r + 16 by omega, List.take_add]
theorem rstH_take (l : List Hdr) (r : Nat) : (rstH l r).take 16 = batH l (r + 1) := rfl
theorem rstH_drop (l : List Hdr) (r : Nat) : (rstH l r).drop 16 = rstH l (r + 1) := by
 unfold rstH
 rw [List.drop_drop]
 congr 1
theorem rstH_nil {l : List Hdr} {r : Nat} (h : rstH l r = []) : l.take (16 * (r + 1)) = l := by
 unfold rstH at h
 rw [List.drop_eq_nil_iff] at h
 exact List.take_of_length_le h
def rnd (n : Nat) : Nat := (n + 15) / 16
structure Two (dS dM : List Lsa) (iS iM q0 : Int) : Prop where
  aS : asc dS
  aM : asc dM
  okS : ∀ x ∈ dS, okD x
  okM : ∀ x ∈ dM, okD x
  yS : youngD dS = hdE dS
  yM : youngD dM = hdE dM
  lS : dS.length ≤ 60
  lM : dM.length ≤ 60
  lt : iS < iM
  wS : inW iS
  wM : inW iM
  q1 : 0 ≤ q0
  q2 : q0 < 1073741824
section
variable (dS dM : List Lsa) (iS iM q0 : Int)
inductive Thr (d e : List Lsa) (self rt : Int) (n : Nbr) (db : List Lsa) : Nat → List Pkt → List Pkt → Prop
 | done (i : Nat) (hd : db = loadD d ((reqL d e).take (16 * i))) (h0 : (reqL d e).drop (16 * i) = []) (ma : Bool) (sq : Int) (s1 : 0 ≤ sq) (s2 : sq < 1099511627776) (sent : List Hdr) (hs : sent.length ≤ 16) (hso : ∀ x ∈ sent, okH x) (co : Co n rt 6 ma sq [] sent []) : Thr d e self rt n db 0 [] []
 | asked (i : Nat) (hd : db = loadD d ((reqL d e).take (16 * i))) (l : List Lsa) (hl : (reqL d e).drop (16 * i) = l) (h0 : l ≠ []) (ma : Bool) (sq : Int) (s1 : 0 ≤ sq) (s2 : sq < 1099511627776) (sent : List Hdr) (hs : sent.length ≤ 16) (hso : ∀ x ∈ sent, okH x) (co : Co n rt 5 ma sq [] sent (hdE l)) : Thr d e self rt n db (2 * rnd l.length) [reqP self l] []
 | told (i : Nat) (hd : db = loadD d ((reqL d e).take (16 * i))) (l : List Lsa) (hl : (reqL d e).drop (16 * i) = l) (h0 : l ≠ []) (ma : Bool) (sq : Int) (s1 : 0 ≤ sq) (s2 : sq < 1099511627776) (sent : List Hdr) (hs : sent.length ≤ 16) (hso : ∀ x ∈ sent, okH x) (co : Co n rt 5 ma sq [] sent (hdE l)) : Thr d e self rt n db (2 * rnd l.length - 1) [] [pkU 0 (l.take 16)]
inductive Inv : Nat → Sd → Sd → Prop
 | A (s m : Sd) (j : Bool) (e1 : s.id = iS) (e2 : m.id = iM) (e3 : s.db = dS) (e4 : m.db = dM) (c1 : Co s.n iM 3 true q0 [] [] []) (c2 : Co m.n iS 3 true q0 [] [] [])
     (h1 : s.inq = [fstP iM q0]) (h2 : m.inq = if j = true then [fstP iS q0] else []) : Inv (34 + j.toNat) s m
 | B (s m : Sd) (j : Bool) (e1 : s.id = iS) (e2 : m.id = iM) (e3 : s.db = dS) (e4 : m.db = dM) (c1 : Co s.n iM 4 false q0 (rstH (hdE dS) 0) (batH (hdE dS) 0) []) (c2 : Co m.n iS 3 true q0 [] [] [])
     (h1 : s.inq = []) (h2 : m.inq = (if j = true then [fstP iS q0] else []) ++ [dat iS q0 (batH (hdE dS) 0) (decide (0 < (rstH (hdE dS) 0).length)) false]) : Inv (32 + j.toNat) s m
 | D (s m : Sd) (r : Nat) (hr : r ≤ 3) (e1 : s.id = iS) (e2 : m.id = iM) (e3 : s.db = dS) (e4 : m.db = dM) (c1 : Co s.n iM 4 false (q0 + r) (rstH (hdE dS) r) (batH (hdE dS) r) (recL dS ((hdE dM).take (16 * r)) [])) (c2 : Co m.n iS 4 true (q0 + 1 + r) (rstH (hdE dM) r) (batH (hdE dM) r) (recL dM ((hdE dS).take (16 * (r + 1))) []))
     (h1 : s.inq = [dat iM (q0 + 1 + r) (batH (hdE dM) r) (decide (0 < (rstH (hdE dM) r).length)) true]) (h2 : m.inq = []) : Inv (22 + 2 * (4 - r)) s m
 | E (s m : Sd) (r : Nat) (hr : r ≤ 3) (e1 : s.id = iS) (e2 : m.id = iM) (e3 : s.db = dS) (e4 : m.db = dM) (c1 : Co s.n iM 4 false (q0 + 1 + r) (rstH (hdE dS) (r + 1)) (batH (hdE dS) (r + 1)) (recL dS ((hdE dM).take (16 * (r + 1))) [])) (c2 : Co m.n iS 4 true (q0 + 1 + r) (rstH (hdE dM) r) (batH (hdE dM) r) (recL dM ((hdE dS).take (16 * (r + 1))) []))
     (hn : ¬ (rstH (hdE dM) r = [] ∧ rstH (hdE dS) (r + 1) = [])) (h1 : s.inq = []) (h2 : m.inq = [dat iS (q0 + 1 + r) (batH (hdE dS) (r + 1)) (decide (0 < (rstH (hdE dS) (r + 1)).length)) false]) : Inv (21 + 2 * (4 - r)) s m
 | F (s m : Sd) (r : Nat) (hr : r ≤ 3) (e1 : s.id = iS) (e2 : m.id = iM) (e4 : m.db = dM) (k : Nat) (o : List Pkt) (t : Thr dS dM iS iM s.n s.db k o []) (hk : k ≤ 8) (c2 : Co m.n iS 4 true (q0 + 1 + r) (rstH (hdE dM) r) (batH (hdE dM) r) (recL dM ((hdE dS).take (16 * (r + 1))) []))
     (hn : rstH (hdE dM) r = [] ∧ rstH (hdE dS) (r + 1) = []) (h1 : s.inq = []) (h2 : m.inq = dat iS (q0 + 1 + r) (batH (hdE dS) (r + 1)) false false :: o) : Inv 20 s m
 | L (s m : Sd) (e1 : s.id = iS) (e2 : m.id = iM) (kS kM : Nat) (oS wS oM wM : List Pkt) (tS : Thr dS dM iS iM s.n s.db kS oS wS) (tM : Thr dM dS iM iS m.n m.db kM oM wM) (h1 : s.inq.Perm (oM ++ wS)) (h2 : m.inq.Perm (oS ++ wM)) : Inv (kS + kM) s m
end
end Go.Proofs.Ytfngaildaoahpaa

/- The exchange of databases, both sides: the steps of the first phases. No program. -/
namespace Go.Proofs.Ytfngaildaoahpaa
open Go Go.Am
theorem hear2 {x : Sd} {p : Pkt} {now : Int} (hk : p.Kind = 2) {n' : Nbr} {l : List Pkt} (h : recvA x.n x.id x.db p now = (n', l, 0)) : hearN x p now = ({ x with n := n' }, l) := by
 unfold hearN
 rw [if_pos hk, h]
 simp
theorem hear2e {x : Sd} {p : Pkt} {now : Int} (hk : p.Kind = 2) {n' : Nbr} {l : List Pkt} {e : Int} (he : e ≠ 0) (h : recvA x.n x.id x.db p now = (n', l, e)) : hearN x p now = (x, []) := by
 unfold hearN
 rw [if_pos hk, h]
 simp [he]
theorem recv_first {n : Nbr} {self : Int} {db : List Lsa} {p : Pkt} {now : Int} (h3 : n.State = 3) (hk : p.Kind = 2) : recvA n self db p now = firstA n self db p now := by
 unfold recvA
 rw [if_neg (fun h => h hk), if_neg (by omega), if_pos h3]
theorem recv_slav {n : Nbr} {self : Int} {db : List Lsa} {p : Pkt} {now : Int} (hk : p.Kind = 2) (h : isSlav n p) : recvA n self db p now = (settleN (slavO (slavM n db p) self p).1 now, (slavO (slavM n db p) self p).2, 0) := by
 have h4 := h.1
 have hm := h.2.1
 have hs := h.2.2.2.2.1
 unfold recvA
 rw [if_neg (fun h => h hk), if_neg (by omega), if_neg (by omega), if_neg (fun c => by omega), if_neg (fun c => by rw [hm] at c; cases c.1), if_pos h]
theorem recv_mast {n : Nbr} {self : Int} {db : List Lsa} {p : Pkt} {now : Int} (hk : p.Kind = 2) (h : isMast n p) : recvA n self db p now = (settleN (mastO (mastM n db p) self p).1 now, (mastO (mastM n db p) self p).2, 0) := by
 have h4 := h.1
 have hm := h.2.1
 have hs := h.2.2.2.2
 have hns : ¬ isSlav n p := fun c => by have := c.2.1; rw [hm] at this; cases this
 unfold recvA
 rw [if_neg (fun h => h hk), if_neg (by omega), if_neg (by omega), if_neg (fun c => by rw [hm] at c; cases c.1), if_neg (fun c => by omega), if_neg hns, if_pos h]
section
variable {dS dM : List Lsa} {iS iM q0 : Int}
theorem first_slave (t : Two dS dM iS iM q0) {n : Nbr} (c : Co n iM 3 true q0 [] [] []) (now : Int) :
   ∃ n', recvA n iS dS (fstP iM q0) now = (n', [dat iS q0 (batH (hdE dS) 0) (decide (0 < (rstH (hdE dS) 0).length)) false], 0) ∧ Co n' iM 4 false q0 (rstH (hdE dS) 0) (batH (hdE dS) 0) [] := by
 have hlt := t.lt
 have hf : isFst (fstP iM q0) iS = true := by simp [isFst, fstP, hlt, pkt0]
 have hc : Co (firstM n dS (fstP iM q0) now) iM 4 false q0 (rstH (hdE dS) 0) (batH (hdE dS) 0) [] := by
   unfold firstM
   refine Co.settle ?_ now
   refine ⟨c.rt, rfl, rfl, rfl, ?_, ?_, c.req, c.una⟩
   · simp only [batchN, t.yS]; rfl
   · simp only [batchN, t.yS]; rfl
 refine ⟨_, ?_, hc⟩
 rw [recv_first c.st rfl]
 unfold firstA
 rw [if_pos hf, hc.pend (by decide)]
theorem first_junk (t : Two dS dM iS iM q0) {n : Nbr} (c : Co n iS 3 true q0 [] [] []) (now : Int) : recvA n iM dM (fstP iS q0) now = (nbr0, [], 14) := by
 have hlt := t.lt
 have hf : isFst (fstP iS q0) iM = false := by simp only [isFst, fstP, pkt0, Bool.true_and, decide_true]; exact decide_eq_false (by omega)
 have hf2 : isAnsw n (fstP iS q0) iM = false := by simp [isAnsw, fstP, pkt0]
 rw [recv_first c.st rfl]
 unfold firstA
 rw [hf, hf2]
 rfl
theorem first_master (t : Two dS dM iS iM q0) {n : Nbr} (c : Co n iS 3 true q0 [] [] []) (now : Int) (more : Bool) :
   ∃ n', recvA n iM dM (dat iS q0 (batH (hdE dS) 0) more false) now = (n', [dat iM (q0 + 1) (batH (hdE dM) 0) (decide (0 < (rstH (hdE dM) 0).length)) true], 0) ∧ Co n' iS 4 true (q0 + 1) (rstH (hdE dM) 0) (batH (hdE dM) 0) (recL dM (batH (hdE dS) 0) []) := by
 have hlt := t.lt
 have hf : isFst (dat iS q0 (batH (hdE dS) 0) more false) iM = false := by simp [isFst, dat, pkt0]
 have hf2 : isAnsw n (dat iS q0 (batH (hdE dS) 0) more false) iM = true := by simp [isAnsw, dat, pkt0, hlt, c.sq]
 have hc : Co (answM n dM (dat iS q0 (batH (hdE dS) 0) more false) now) iS 4 true (q0 + 1) (rstH (hdE dM) 0) (batH (hdE dM) 0) (recL dM (batH (hdE dS) 0) []) := by
   unfold answM
   refine Co.settle ?_ now
   refine ⟨c.rt, rfl, c.ma, ?_, ?_, ?_, ?_, c.una⟩
   · show n.Seq + 1 = q0 + 1
     rw [c.sq]
   · simp only [batchN, recordN, t.yM]; rfl
   · simp only [batchN, recordN, t.yM]; rfl
   · show recL dM (batH (hdE dS) 0) n.Req = _
     rw [c.req]
 refine ⟨_, ?_, hc⟩
 rw [recv_first c.st rfl]
 unfold firstA
 rw [hf, hf2, hc.pend (by decide)]
 rfl
theorem slave_next {n : Nbr} {db : List Lsa} {rt sq from_ : Int} {l s R heads : List Hdr} {more : Bool} (c : Co n rt 4 false sq l s R) :
   Co (slavM n db (dat from_ (sq + 1) heads more true)) rt 4 false (sq + 1) (l.drop 16) (l.take 16) (recL db heads R) := by
 refine ⟨c.rt, c.st, c.ma, rfl, ?_, ?_, ?_, c.una⟩
 · simp only [slavM, batchN, recordN, c.lst]
 · simp only [slavM, batchN, recordN, c.lst]
 · simp only [slavM, batchN, recordN, c.req]
   rfl
end
end Go.Proofs.Ytfngaildaoahpaa

/- The exchange of databases, both sides: what is loaded. No program. -/
namespace Go.Proofs.Ytfngaildaoahpaa
open Go Go.Am
theorem updL_one : ∀ (ys xs : List Lsa), xs ≠ [] → xs.length + ys.length ≤ 16 → ys.foldl stepU [xs] = [xs ++ ys]
 | [], xs, _, _ => by simp
 | y :: ys, xs, h0, hl => by
   simp only [List.length_cons] at hl
   have e : stepU [xs] y = [xs ++ [y]] := by
     unfold stepU
     simp only [List.getLast?_singleton, List.dropLast_singleton, List.nil_append]
     rw [if_pos (by omega)]
   rw [List.foldl_cons, e, updL_one ys (xs ++ [y]) (by simp) (by simp; omega)]
   simp
theorem updL_short {xs : List Lsa} (h0 : xs ≠ []) (hl : xs.length ≤ 16) : updL xs = [xs] := by
 cases xs with
 | nil => exact absurd rfl h0
 | cons x xs =>
   have e : stepU [] x = [[x]] := rfl
   simp only [updL, List.foldl_cons, e]
   simp only [List.length_cons] at hl
   rw [updL_one xs [x] (by simp) (by simp; omega)]
   rfl
theorem answ_thr {d e : List Lsa} (hd : asc d) (he : asc e) (hda : ∀ x ∈ d, inI x.H.Age) (hea : ∀ x ∈ e, inI x.H.Age) {i j : Nat} {l : List Lsa} (hl : (reqL d e).drop i = l) (h0 : l ≠ []) (self : Int) :
   answN (loadD e ((reqL e d).take j)) (reqP self l) = ([l.take 16], 0) := by
 have hget : ∀ x ∈ l.take 16, getD_ (loadD e ((reqL e d).take j)) (keyA x) = (x, true) := by
   intro x hx
   have hx1 : x ∈ reqL d e := by
     have := List.mem_of_mem_take hx
     rw [← hl] at this
     exact List.mem_of_mem_drop this
   have hx2 : x ∈ e := (List.mem_filter.1 hx1).1
   have ha : asc ((reqL e d).take j) := List.Pairwise.sublist (List.take_sublist j _) (reqL_asc e hd)
   have hf : (loadD e ((reqL e d).take j)).find? (hasK (keyA x)) = some x := by
     rw [loadD_find _ he ha]
     have h1 : ((reqL e d).take j).find? (hasK (keyA x)) = none := by
       refine find_none.2 fun y hy e2 => ?_
       exact req_apart hd he hda hea hx1 (List.mem_of_mem_take hy) e2.symm
     have h2 : e.find? (hasK (keyA x)) = some x := (find_mem he).2 ⟨hx2, rfl⟩
     rw [h1, h2]
     rfl
   unfold getD_
   rw [hf]
 unfold answN
 have hk : (reqP self l).Keys = (l.take 16).map keyA := rfl
 rw [if_neg (show ¬ (reqP self l).Kind ≠ 3 from fun h => h rfl), hk]
 have hall : (((l.take 16).map keyA).all fun k => (getD_ (loadD e ((reqL e d).take j)) k).2) = true := by
   rw [List.all_eq_true]
   intro k hk
   obtain ⟨x, hx, rfl⟩ := List.mem_map.1 hk
   rw [hget x hx]
 rw [if_pos hall]
 have hask : askL (loadD e ((reqL e d).take j)) ((l.take 16).map keyA) = l.take 16 := by
   unfold askL
   rw [List.map_map]
   conv => rhs; rw [← List.map_id (l.take 16)]
   exact List.map_congr_left fun x hx => by simp only [Function.comp_apply, hget x hx]; rfl
 rw [hask, updL_short (fun h => h0 (by
   rcases List.take_eq_nil_iff.1 h with h | h
   · cases h
   · exact h)) (by rw [List.length_take]; omega)]
theorem cmpH_self (h : Hdr) (ha : inI h.Age) : cmpH h h = 0 := by
 have := cmpH_neg h h ha ha
 omega
theorem hdE_length (l : List Lsa) : (hdE l).length = l.length := by simp [hdE]
theorem won_head {x : Lsa} {l : List Lsa} (ha : asc (x :: l)) (hx : inI x.H.Age) : wonH x.H (hdE (x :: l)) = hdE l := by
 unfold wonH hdE
 have h0 : cmpH x.H x.H = 0 := cmpH_self _ hx
 rw [List.map_cons, List.filter_cons]
 rw [if_neg (by simp [h0])]
 rw [List.filter_eq_self]
 intro r hr
 obtain ⟨y, hy, rfl⟩ := List.mem_map.1 hr
 have := ltY_ne (List.rel_of_pairwise_cons ha hy)
 have hne : ¬ keyH y.H = keyH x.H := fun e => this e.symm
 simp [hne]
def newer (db l : List Lsa) : Prop := ∀ y ∈ l, cmpD db y.H = 1
theorem newer_put {db : List Lsa} {x : Lsa} {l : List Lsa} (hd : asc db) (ha : asc (x :: l)) (h : newer db (x :: l)) : newer (putW x db) l := by
 intro y hy
 have hne := ltY_ne (List.rel_of_pairwise_cons ha hy)
 have : cmpD (putW x db) y.H = cmpD db y.H := cmpD_congr (by rw [find_put hd]; exact if_neg hne)
 rw [this]
 exact h y (List.mem_cons_of_mem _ hy)
theorem upd_one {n : Nbr} {db : List Lsa} {rt : Int} {ma : Bool} {sq : Int} {sent : List Hdr} {x : Lsa} {l : List Lsa} (hd : asc db) (ha : asc (x :: l)) (hx : inI x.H.Age) (hn : newer db (x :: l)) (c : Co n rt 5 ma sq [] sent (hdE (x :: l))) :
   (updOne (n, db) x).2 = putW x db ∧ Co (updOne (n, db) x).1 rt (if l = [] then 6 else 5) ma sq [] sent (hdE l) := by
 have hw := won_head ha hx
 have hl : (hdE l).length < (hdE (x :: l)).length := by simp [hdE]
 refine ⟨?_, ?_⟩
 · simp only [updOne]
   rw [if_pos (hn x (by simp))]
 · simp only [updOne]
   unfold gotN
   rw [c.req, hw, if_pos hl]
   unfold lessN
   by_cases h0 : l = []
   · subst h0
     rw [if_pos ⟨c.st, rfl⟩]
     exact ⟨c.rt, rfl, c.ma, c.sq, c.lst, c.sent, rfl, c.una⟩
   · have h1 : ¬ (n.State = 5 ∧ hdE l = []) := fun h => h0 (List.map_eq_nil_iff.1 h.2)
     rw [if_neg h1, if_neg h0]
     exact ⟨c.rt, c.st, c.ma, c.sq, c.lst, c.sent, rfl, c.una⟩
theorem upd_all : ∀ (xs : List Lsa) {n : Nbr} {db : List Lsa} {rt : Int} {ma : Bool} {sq : Int} {sent : List Hdr} {ys : List Lsa}, asc db → asc (xs ++ ys) → (∀ x ∈ xs, inI x.H.Age) → newer db (xs ++ ys) → xs ++ ys ≠ [] → Co n rt 5 ma sq [] sent (hdE (xs ++ ys)) →
   (xs.foldl updOne (n, db)).2 = loadD db xs ∧ Co (xs.foldl updOne (n, db)).1 rt (if ys = [] then 6 else 5) ma sq [] sent (hdE ys)
 | [], n, db, rt, ma, sq, sent, ys, _, _, _, _, h0, c => by
   have h1 : ys ≠ [] := h0
   rw [if_neg h1]
   exact ⟨rfl, c⟩
 | x :: xs, n, db, rt, ma, sq, sent, ys, hd, ha, hx, hn, _, c => by
   obtain ⟨h1, h2⟩ := upd_one (l := xs ++ ys) hd ha (hx x (by simp)) hn c
   have hn2 := newer_put (l := xs ++ ys) hd ha hn
   have ha2 : asc (xs ++ ys) := List.Pairwise.of_cons ha
   have e : (updOne (n, db) x) = ((updOne (n, db) x).1, putW x db) := by rw [← h1]
   rw [List.foldl_cons, e]
   by_cases h3 : xs ++ ys = []
   · rw [if_pos h3] at h2
     obtain ⟨rfl, rfl⟩ := List.append_eq_nil_iff.1 h3
     rw [if_pos rfl]
     exact ⟨rfl, h2⟩
   · rw [if_neg h3] at h2
     exact upd_all xs (putW_asc hd) ha2 (fun y hy => hx y (List.mem_cons_of_mem _ hy)) hn2 h3 h2
theorem newer_load {d e : List Lsa} (hd : asc d) (he : asc e) (i : Nat) : newer (loadD d ((reqL d e).take i)) ((reqL d e).drop i) := by
 intro y hy
 have ha := reqL_asc d he
 have hy1 : y ∈ reqL d e := List.mem_of_mem_drop hy
 have hc : cmpD d y.H = 1 := of_decide_eq_true (List.mem_filter.1 hy1).2
 have ht : asc ((reqL d e).take i) := List.Pairwise.sublist (List.take_sublist i _) ha
 have hf : ((reqL d e).take i).find? (hasK (keyH y.H)) = none := by
   refine find_none.2 fun z hz e2 => ?_
   have hp : asc ((reqL d e).take i ++ (reqL d e).drop i) := by rw [List.take_append_drop]; exact ha
   exact ltY_ne ((List.pairwise_append.1 hp).2.2 z hz y hy) e2
 rw [← hc]
 refine cmpD_congr ?_
 rw [loadD_find _ hd ht, hf]
 rfl
theorem loadD_app (d xs ys : List Lsa) : loadD (loadD d xs) ys = loadD d (xs ++ ys) := by
 simp [loadD]
theorem rnd_pos {n : Nat} (h : 0 < n) : 1 ≤ rnd n := by unfold rnd; omega
theorem rnd_sub {n : Nat} (h : 16 < n) : rnd (n - 16) + 1 = rnd n := by unfold rnd; omega
theorem upd_thr {d e : List Lsa} (hd : asc d) (he : asc e) (hea : ∀ x ∈ e, inI x.H.Age) {self rt : Int} {x : Sd} (hid : x.id = self) {k : Nat} {o w : List Pkt} {p : Pkt} (t : Thr d e self rt x.n x.db k o w) (hp : p ∈ w) (now : Int) :
   o = [] ∧ w = [p] ∧ ∃ n' db' k' o', hearN x p now = ({ x with n := n', db := db' }, o') ∧ k' < k ∧ Thr d e self rt n' db' k' o' [] := by
 cases t with
 | done => cases hp
 | asked => cases hp
 | told i hdb l hl h0 ma sq s1 s2 sent hs hso co =>
   obtain rfl := List.mem_singleton.1 hp
   refine ⟨rfl, rfl, ?_⟩
   have hal : asc l := by rw [← hl]; exact List.Pairwise.sublist (List.drop_sublist _ _) (reqL_asc d he)
   have hdd : asc x.db := by rw [hdb]; exact loadD_asc _ hd
   have hnw : newer x.db l := by rw [hdb, ← hl]; exact newer_load hd he _
   have hle : ∀ y ∈ l, y ∈ e := fun y hy => by
     rw [← hl] at hy
     exact (List.mem_filter.1 (List.mem_of_mem_drop hy)).1
   have e1 : l.take 16 ++ l.drop 16 = l := List.take_append_drop 16 l
   obtain ⟨u1, u2⟩ := upd_all (l.take 16) (ys := l.drop 16) hdd (by rw [e1]; exact hal) (fun y hy => hea y (hle y (List.mem_of_mem_take hy))) (by rw [e1]; exact hnw) (by rw [e1]; exact h0) (by rw [e1]; exact co)
   have hdb' : loadD x.db (l.take 16) = loadD d ((reqL d e).take (16 * (i + 1))) := by
     rw [hdb, loadD_app, ← hl, show 16 * (i + 1) = 16 * i + 16 by omega, List.take_add]
   have hdr : (reqL d e).drop (16 * (i + 1)) = l.drop 16 := by
     rw [← hl, List.drop_drop]
     congr 1
   have hreq : x.n.Req.length = l.length := by rw [co.req, hdE_length]
   have hpos : 0 < l.length := List.length_pos_iff.2 h0
   have hq := rnd_pos hpos
   have hh : hearN x (pkU 0 (l.take 16)) now = (if ((l.take 16).foldl updOne (x.n, x.db)).1.State = 5 ∧ ((l.take 16).foldl updOne (x.n, x.db)).1.Req.length < x.n.Req.length then ({ x with n := ((l.take 16).foldl updOne (x.n, x.db)).1, db := ((l.take 16).foldl updOne (x.n, x.db)).2 }, [reqN ((l.take 16).foldl updOne (x.n, x.db)).1 x.id]) else ({ x with n := ((l.take 16).foldl updOne (x.n, x.db)).1, db := ((l.take 16).foldl updOne (x.n, x.db)).2 }, [])) := rfl
   generalize (l.take 16).foldl updOne (x.n, x.db) = q at *
   obtain ⟨n', db'⟩ := q
   simp only at u1 u2 hh
   subst u1
   by_cases h2 : l.drop 16 = []
   · rw [if_pos h2, h2] at u2
     have hst := u2.st
     rw [if_neg (fun c => by omega)] at hh
     refine ⟨n', _, 0, [], hh, by omega, ?_⟩
     exact .done (i + 1) hdb' (hdr.trans h2) ma sq s1 s2 sent hs hso u2
   · rw [if_neg h2] at u2
     have hlt : 16 < l.length := Nat.lt_of_not_le fun c => h2 (List.drop_eq_nil_iff.2 c)
     have hrl : n'.Req.length < x.n.Req.length := by rw [u2.req, hdE_length, hreq, List.length_drop]; omega
     rw [if_pos ⟨u2.st, hrl⟩, u2.reqP] at hh
     rw [← hid]
     refine ⟨n', _, 2 * rnd (l.drop 16).length, _, hh, ?_, ?_⟩
     · have := rnd_sub hlt
       rw [List.length_drop]
       omega
     · exact .asked (i + 1) hdb' _ hdr h2 ma sq s1 s2 sent hs hso u2
theorem answ_told {d e : List Lsa} {self rt : Int} {n : Nbr} {db : List Lsa} {k : Nat} {o w : List Pkt} {p : Pkt} (t : Thr d e self rt n db k o w) (hp : p ∈ o) :
   ∃ l i, (reqL d e).drop i = l ∧ l ≠ [] ∧ p = reqP self l ∧ o = [p] ∧ w = [] ∧ ∃ k', k' < k ∧ Thr d e self rt n db k' [] [pkU 0 (l.take 16)] := by
 cases t with
 | done => cases hp
 | told => cases hp
 | asked i hdb l hl h0 ma sq s1 s2 sent hs hso co =>
   obtain rfl := List.mem_singleton.1 hp
   have := rnd_pos (List.length_pos_iff.2 h0)
   exact ⟨l, _, hl, h0, rfl, rfl, rfl, _, by omega, .told i hdb l hl h0 ma sq s1 s2 sent hs hso co⟩
theorem thr_db {d e : List Lsa} {self rt : Int} {n : Nbr} {db : List Lsa} {k : Nat} {o w : List Pkt} (t : Thr d e self rt n db k o w) : ∃ j, db = loadD d ((reqL d e).take j) := by
 cases t with
 | done i hdb => exact ⟨_, hdb⟩
 | asked i hdb => exact ⟨_, hdb⟩
 | told i hdb => exact ⟨_, hdb⟩
end Go.Proofs.Ytfngaildaoahpaa

/- The exchange of databases, both sides: every packet that is heard leads on. No program. -/
namespace Go.Proofs.Ytfngaildaoahpaa
open Go Go.Am
section
variable {dS dM : List Lsa} {iS iM q0 : Int}
theorem Two.ageS (t : Two dS dM iS iM q0) : ∀ x ∈ dS, inI x.H.Age := fun x hx => (t.okS x hx).1.1.2.2.2.2.2.1
theorem Two.ageM (t : Two dS dM iS iM q0) : ∀ x ∈ dM, inI x.H.Age := fun x hx => (t.okM x hx).1.1.2.2.2.2.2.1
theorem req_len (d e : List Lsa) : (reqL d e).length ≤ e.length := List.length_filter_le _ _
theorem rnd_60 {n : Nat} (h : n ≤ 60) : 2 * rnd n ≤ 8 := by unfold rnd; omega
theorem thr_start {d e : List Lsa} {self rt : Int} {n : Nbr} {st sq : Int} {ma : Bool} {sent : List Hdr} (s1 : 0 ≤ sq) (s2 : sq < 1099511627776) (hs : sent.length ≤ 16) (hso : ∀ x ∈ sent, okH x) (he : e.length ≤ 60) (c : Co n rt st ma sq [] sent (hdE (reqL d e))) (now : Int) (l : List Pkt) :
   ∃ k o, k ≤ 8 ∧ finP n self l = l ++ o ∧ Thr d e self rt (settleN (finN n) now) d k o [] := by
 have hz : (reqL d e).take (16 * 0) = [] := by simp
 have hd : (reqL d e).drop (16 * 0) = reqL d e := by simp
 have hdb : d = loadD d ((reqL d e).take (16 * 0)) := by rw [hz]; rfl
 by_cases h0 : reqL d e = []
 · refine ⟨0, [], by omega, ?_, ?_⟩
   · unfold finP
     rw [if_pos (by rw [c.req, h0]; rfl), List.append_nil]
   · refine .done 0 hdb (hd.trans h0) ma sq s1 s2 sent hs hso (Co.settle ?_ now)
     unfold finN
     rw [if_pos (by rw [c.req, h0]; rfl)]
     rw [h0] at c
     exact ⟨c.rt, rfl, c.ma, c.sq, c.lst, c.sent, c.req, c.una⟩
 · have h1 : ¬ n.Req = [] := fun h => h0 (by rw [c.req] at h; exact List.map_eq_nil_iff.1 h)
   have c2 : Co { n with State := 5 } rt 5 ma sq [] sent (hdE (reqL d e)) := ⟨c.rt, rfl, c.ma, c.sq, c.lst, c.sent, c.req, c.una⟩
   refine ⟨2 * rnd (reqL d e).length, [reqP self (reqL d e)], rnd_60 (Nat.le_trans (req_len d e) he), ?_, ?_⟩
   · unfold finP
     rw [if_neg h1, c2.reqP]
   · refine .asked 0 hdb _ hd h0 ma sq s1 s2 sent hs hso (Co.settle ?_ now)
     unfold finN
     rw [if_neg h1]
     exact c2
theorem batH_len (l : List Hdr) (r : Nat) : (batH l r).length ≤ 16 := by
 unfold batH
 rw [List.length_take]
 omega
theorem batH_mem {l : List Hdr} {r : Nat} {x : Hdr} (h : x ∈ batH l r) : x ∈ l := List.mem_of_mem_drop (List.mem_of_mem_take h)
theorem okH_of {e : List Lsa} (h : ∀ x ∈ e, okD x) : ∀ y ∈ hdE e, okH y := by
 intro y hy
 obtain ⟨x, hx, rfl⟩ := List.mem_map.1 hy
 exact (h x hx).1.1
theorem more_eq (l : List Hdr) : decide (0 < l.length) = false ↔ l = [] := by
 cases l <;> simp
theorem stepS (t : Two dS dM iS iM q0) {T : Nat} {s m : Sd} {p : Pkt} {rest : List Pkt} (h : Inv dS dM iS iM q0 T s m) (hq : s.inq = p :: rest) (now : Int) :
   ∃ T', T' < T ∧ Inv dS dM iS iM q0 T' { (hearN s p now).1 with inq := rest } { m with inq := m.inq ++ (hearN s p now).2 } := by
 cases h with
 | A _ _ j e1 e2 e3 e4 c1 c2 h1 h2 =>
   rw [h1] at hq
   injection hq with hp hr
   subst hp hr
   obtain ⟨n', k1, k2⟩ := first_slave t c1 now
   rw [hear2 rfl (by rw [e1, e3]; exact k1)]
   exact ⟨32 + j.toNat, by omega, .B _ _ j e1 e2 e3 e4 k2 c2 rfl (by simp only; rw [h2])⟩
 | B _ _ j e1 e2 e3 e4 c1 c2 h1 h2 => rw [h1] at hq; cases hq
 | E _ _ r hr e1 e2 e3 e4 c1 c2 hn h1 h2 => rw [h1] at hq; cases hq
 | F _ _ r hr e1 e2 e4 k o th hk c2 hn h1 h2 => rw [h1] at hq; cases hq
 | D _ _ r hr e1 e2 e3 e4 c1 c2 h1 h2 =>
   rw [h1] at hq
   injection hq with hp hrest
   subst hp hrest
   have e0 : q0 + 1 + (r : Int) = q0 + r + 1 := by omega
   have hsl : isSlav s.n (dat iM (q0 + 1 + r) (batH (hdE dM) r) (decide (0 < (rstH (hdE dM) r).length)) true) := by
     refine ⟨c1.st, c1.ma, rfl, rfl, ?_, ?_⟩
     · show s.n.Seq < q0 + 1 + r
       rw [c1.sq]; omega
     · show q0 + 1 + r - 1 = s.n.Seq
       rw [c1.sq]; omega
   have hv := recv_slav (self := s.id) (db := s.db) (now := now) rfl hsl
   have hc : Co (slavM s.n s.db (dat iM (q0 + 1 + r) (batH (hdE dM) r) (decide (0 < (rstH (hdE dM) r).length)) true)) iM 4 false (q0 + 1 + r) (rstH (hdE dS) (r + 1)) (batH (hdE dS) (r + 1)) (recL dS ((hdE dM).take (16 * (r + 1))) []) := by
     rw [e0, ← rstH_drop, ← rstH_take, ← batH_pre, recL_app, e3]
     exact slave_next c1
   have hpd := hc.pend (by decide) s.id
   have hq0 := t.q1
   have hq2 := t.q2
   generalize slavM s.n s.db (dat iM (q0 + 1 + r) (batH (hdE dM) r) (decide (0 < (rstH (hdE dM) r).length)) true) = sm at *
   by_cases hend : rstH (hdE dM) r = [] ∧ rstH (hdE dS) (r + 1) = []
   · have hmo : (dat iM (q0 + 1 + r) (batH (hdE dM) r) (decide (0 < (rstH (hdE dM) r).length)) true).More = false := (more_eq _).2 hend.1
     have ho : slavO sm s.id (dat iM (q0 + 1 + r) (batH (hdE dM) r) (decide (0 < (rstH (hdE dM) r).length)) true) = (finN sm, finP sm s.id [pendN sm s.id]) := by
       unfold slavO
       rw [if_pos ⟨hmo, by rw [hc.lst]; exact hend.2⟩]
     rw [ho] at hv
     have hreq : recL dS ((hdE dM).take (16 * (r + 1))) [] = hdE (reqL dS dM) := by rw [rstH_nil hend.1, recL_req dS t.aM]
     rw [hreq, hend.2] at hc
     obtain ⟨k, o, g1, g2, g3⟩ := thr_start (self := s.id) (by omega) (by omega) (batH_len _ _) (fun x hx => okH_of t.okS x (batH_mem hx)) t.lM hc now [pendN sm s.id]
     simp only at hv
     rw [g2, hpd] at hv
     rw [hear2 rfl hv]
     rw [e1] at g3
     refine ⟨20, by omega, .F _ _ r hr e1 e2 e4 k o (by rw [e3]; exact g3) g1 c2 hend rfl ?_⟩
     simp only
     rw [h2, e1, (more_eq _).2 hend.2]
     rfl
   · have ho : slavO sm s.id (dat iM (q0 + 1 + r) (batH (hdE dM) r) (decide (0 < (rstH (hdE dM) r).length)) true) = (sm, [pendN sm s.id]) := by
       unfold slavO
       rw [if_neg]
       rintro ⟨g1, g2⟩
       rw [hc.lst] at g2
       exact hend ⟨(more_eq _).1 g1, g2⟩
     rw [ho] at hv
     simp only at hv
     rw [hpd] at hv
     rw [hear2 rfl hv]
     refine ⟨21 + 2 * (4 - r), by omega, .E _ _ r hr e1 e2 e3 e4 (hc.settle now) c2 hend rfl ?_⟩
     simp only
     rw [h2, e1]
     rfl
 | L _ _ e1 e2 kS kM oS wS oM wM tS tM h1 h2 =>
   rw [hq] at h1
   have hmem : p ∈ oM ++ wS := h1.subset (by simp)
   rcases List.mem_append.1 hmem with hp | hp
   · obtain ⟨l, i, g1, g2, rfl, rfl, rfl, k', g3, g4⟩ := answ_told tM hp
     obtain ⟨j, hj⟩ := thr_db tS
     have ha := answ_thr t.aM t.aS t.ageM t.ageS (i := i) (j := j) g1 g2 iM
     rw [← hj] at ha
     have hh : hearN s (reqP iM l) now = (s, [pkU 0 (l.take 16)]) := by
       unfold hearN
       rw [if_neg (by show ¬ (3 : Int) = 2; decide), if_pos (show (reqP iM l).Kind = 3 from rfl), ha]
       simp
     rw [hh]
     have hr : rest.Perm ([] ++ wS) := List.Perm.cons_inv h1
     refine ⟨kS + k', by omega, .L ⟨s.n, s.id, s.db, rest⟩ ⟨m.n, m.id, m.db, m.inq ++ [pkU 0 (l.take 16)]⟩ e1 e2 kS k' oS wS [] _ tS g4 hr ?_⟩
     simp only
     rw [List.append_nil] at h2
     exact h2.append_right _
   · obtain ⟨rfl, rfl, n', db', k', o', g1, g2, g3⟩ := upd_thr t.aS t.aM t.ageM e1 tS hp now
     rw [g1]
     have hr : rest.Perm (oM ++ []) := by
       rw [List.append_nil]
       have := h1.trans List.perm_append_comm
       exact List.Perm.cons_inv this
     refine ⟨k' + kM, by omega, .L ⟨n', s.id, db', rest⟩ ⟨m.n, m.id, m.db, m.inq ++ o'⟩ e1 e2 k' kM o' [] oM wM g3 tM hr ?_⟩
     simp only
     exact (h2.append_right o').trans (by simpa using List.perm_append_comm)
theorem stepM (t : Two dS dM iS iM q0) {T : Nat} {s m : Sd} {p : Pkt} {rest : List Pkt} (h : Inv dS dM iS iM q0 T s m) (hq : m.inq = p :: rest) (now : Int) :
   ∃ T', T' < T ∧ Inv dS dM iS iM q0 T' { s with inq := s.inq ++ (hearN m p now).2 } { (hearN m p now).1 with inq := rest } := by
 cases h with
 | A _ _ j e1 e2 e3 e4 c1 c2 h1 h2 =>
   rw [h2] at hq
   cases j with
   | false => cases hq
   | true =>
     injection hq with hp hr
     subst hp hr
     rw [hear2e (e := 14) (n' := nbr0) (l := []) rfl (by decide) (by rw [e2, e4]; exact first_junk t c2 now)]
     exact ⟨34, by simp, .A _ _ false e1 e2 e3 e4 c1 c2 (by simp only; rw [h1]; rfl) rfl⟩
 | B _ _ j e1 e2 e3 e4 c1 c2 h1 h2 =>
   rw [h2] at hq
   cases j with
   | true =>
     injection hq with hp hr
     subst hp
     rw [hear2e (e := 14) (n' := nbr0) (l := []) rfl (by decide) (by rw [e2, e4]; exact first_junk t c2 now)]
     exact ⟨32, by simp, .B _ _ false e1 e2 e3 e4 c1 c2 (by simp only; rw [h1]; rfl) hr.symm⟩
   | false =>
     injection hq with hp hr
     subst hp hr
     obtain ⟨n', k1, k2⟩ := first_master t c2 now (decide (0 < (rstH (hdE dS) 0).length))
     rw [hear2 rfl (by rw [e2, e4]; exact k1)]
     refine ⟨22 + 2 * (4 - 0), by simp, .D _ _ 0 (by omega) e1 e2 e3 e4 ?_ ?_ ?_ rfl⟩
     · simpa [recL] using c1
     · simpa [batH] using k2
     · simp only; rw [h1]; simp
 | D _ _ r hr e1 e2 e3 e4 c1 c2 h1 h2 => rw [h2] at hq; cases hq
 | E _ _ r hr e1 e2 e3 e4 c1 c2 hn h1 h2 =>
   rw [h2] at hq
   injection hq with hp hrest
   subst hp hrest
   have hms : isMast m.n (dat iS (q0 + 1 + r) (batH (hdE dS) (r + 1)) (decide (0 < (rstH (hdE dS) (r + 1)).length)) false) := ⟨c2.st, c2.ma, rfl, rfl, c2.sq.symm⟩
   have hv := recv_mast (self := m.id) (db := m.db) (now := now) rfl hms
   have hc : Co (batchN (mastM m.n m.db (dat iS (q0 + 1 + r) (batH (hdE dS) (r + 1)) (decide (0 < (rstH (hdE dS) (r + 1)).length)) false))) iS 4 true (q0 + 1 + ((r + 1 : Nat) : Int)) (rstH (hdE dM) (r + 1)) (batH (hdE dM) (r + 1)) (recL dM ((hdE dS).take (16 * (r + 1 + 1))) []) := by
     refine ⟨c2.rt, c2.st, c2.ma, ?_, ?_, ?_, ?_, c2.una⟩
     · show m.n.Seq + 1 = _
       rw [c2.sq]; omega
     · show m.n.Lst.drop 16 = _
       rw [c2.lst, rstH_drop]
     · show m.n.Lst.take 16 = _
       rw [c2.lst, rstH_take]
     · show recL m.db (batH (hdE dS) (r + 1)) m.n.Req = _
       rw [c2.req, e4, ← recL_app, batH_pre]
   have ho : mastO (mastM m.n m.db (dat iS (q0 + 1 + r) (batH (hdE dS) (r + 1)) (decide (0 < (rstH (hdE dS) (r + 1)).length)) false)) m.id (dat iS (q0 + 1 + r) (batH (hdE dS) (r + 1)) (decide (0 < (rstH (hdE dS) (r + 1)).length)) false) = (batchN (mastM m.n m.db (dat iS (q0 + 1 + r) (batH (hdE dS) (r + 1)) (decide (0 < (rstH (hdE dS) (r + 1)).length)) false)), [pendN (batchN (mastM m.n m.db (dat iS (q0 + 1 + r) (batH (hdE dS) (r + 1)) (decide (0 < (rstH (hdE dS) (r + 1)).length)) false))) m.id]) := by
     unfold mastO
     rw [if_neg]
     rintro ⟨g1, g2⟩
     have g3 : m.n.Lst = [] := g2
     rw [c2.lst] at g3
     exact hn ⟨g3, (more_eq _).1 g1⟩
   rw [ho] at hv
   simp only at hv
   rw [hc.pend (by decide) m.id] at hv
   rw [hear2 rfl hv]
   have hr2 : r + 1 ≤ 3 := by
     have l1 : (hdE dM).length ≤ 60 := by rw [hdE_length]; exact t.lM
     have l2 : (hdE dS).length ≤ 60 := by rw [hdE_length]; exact t.lS
     refine Nat.le_of_not_lt fun c => hn ⟨?_, ?_⟩
     · unfold rstH
       rw [List.drop_eq_nil_iff]
       omega
     · unfold rstH
       rw [List.drop_eq_nil_iff]
       omega
   refine ⟨22 + 2 * (4 - (r + 1)), by omega, .D _ _ (r + 1) hr2 e1 e2 e3 e4 ?_ (hc.settle now) ?_ rfl⟩
   · have e0 : q0 + ((r + 1 : Nat) : Int) = q0 + 1 + r := by omega
     rw [e0]
     exact c1
   · simp only
     rw [h1, e2]
     rfl
 | F _ _ r hr e1 e2 e4 k o th hk c2 hn h1 h2 =>
   rw [h2] at hq
   injection hq with hp hrest
   subst hp hrest
   have hms : isMast m.n (dat iS (q0 + 1 + r) (batH (hdE dS) (r + 1)) false false) := ⟨c2.st, c2.ma, rfl, rfl, c2.sq.symm⟩
   have hv := recv_mast (self := m.id) (db := m.db) (now := now) rfl hms
   have hc : Co (mastM m.n m.db (dat iS (q0 + 1 + r) (batH (hdE dS) (r + 1)) false false)) iS 4 true (q0 + 2 + r) [] (batH (hdE dM) r) (hdE (reqL dM dS)) := by
     refine ⟨c2.rt, c2.st, c2.ma, ?_, ?_, c2.sent, ?_, c2.una⟩
     · show m.n.Seq + 1 = _
       rw [c2.sq]; omega
     · show m.n.Lst = _
       rw [c2.lst, hn.1]
     · show recL m.db (batH (hdE dS) (r + 1)) m.n.Req = _
       rw [c2.req, e4, ← recL_app, batH_pre, rstH_nil hn.2, recL_req dM t.aS]
   have hq0 := t.q1
   have hq2 := t.q2
   generalize mastM m.n m.db (dat iS (q0 + 1 + r) (batH (hdE dS) (r + 1)) false false) = mm at *
   have ho : mastO mm m.id (dat iS (q0 + 1 + r) (batH (hdE dS) (r + 1)) false false) = (finN mm, finP mm m.id []) := by
     unfold mastO
     rw [if_pos ⟨rfl, hc.lst⟩]
   rw [ho] at hv
   obtain ⟨k', o', g1, g2, g3⟩ := thr_start (self := m.id) (by omega) (by omega) (batH_len _ _) (fun x hx => okH_of t.okM x (batH_mem hx)) t.lS hc now []
   simp only at hv
   rw [g2, List.nil_append] at hv
   rw [hear2 rfl hv]
   rw [e2] at g3
   refine ⟨k + k', by omega, .L ⟨s.n, s.id, s.db, s.inq ++ o'⟩ ⟨settleN (finN mm) now, m.id, m.db, _⟩ e1 e2 k k' o [] o' [] th (by simp only; rw [e4]; exact g3) ?_ ?_⟩
   · simp only
     rw [h1, List.append_nil]
     exact List.Perm.refl _
   · simp only
     rw [List.append_nil]
 | L _ _ e1 e2 kS kM oS wS oM wM tS tM h1 h2 =>
   rw [hq] at h2
   have hmem : p ∈ oS ++ wM := h2.subset (by simp)
   rcases List.mem_append.1 hmem with hp | hp
   · obtain ⟨l, i, g1, g2, rfl, rfl, rfl, k', g3, g4⟩ := answ_told tS hp
     obtain ⟨j, hj⟩ := thr_db tM
     have ha := answ_thr t.aS t.aM t.ageS t.ageM (i := i) (j := j) g1 g2 iS
     rw [← hj] at ha
     have hh : hearN m (reqP iS l) now = (m, [pkU 0 (l.take 16)]) := by
       unfold hearN
       rw [if_neg (by show ¬ (3 : Int) = 2; decide), if_pos (show (reqP iS l).Kind = 3 from rfl), ha]
       simp
     rw [hh]
     have hr : rest.Perm ([] ++ wM) := List.Perm.cons_inv h2
     refine ⟨k' + kM, by omega, .L ⟨s.n, s.id, s.db, s.inq ++ [pkU 0 (l.take 16)]⟩ ⟨m.n, m.id, m.db, rest⟩ e1 e2 k' kM [] _ oM wM g4 tM ?_ hr⟩
     simp only
     rw [List.append_nil] at h1
     exact h1.append_right _
   · obtain ⟨rfl, rfl, n', db', k', o', g1, g2, g3⟩ := upd_thr t.aM t.aS t.ageS e2 tM hp now
     rw [g1]
     have hr : rest.Perm (oS ++ []) := by
       rw [List.append_nil]
       have := h2.trans List.perm_append_comm
       exact List.Perm.cons_inv this
     refine ⟨kS + k', by omega, .L ⟨s.n, s.id, s.db, s.inq ++ o'⟩ ⟨n', m.id, db', rest⟩ e1 e2 kS k' oS wS o' [] tS g3 ?_ hr⟩
     simp only
     exact (h1.append_right o').trans (by simpa using List.perm_append_comm)
theorem inv_end {T : Nat} {s m : Sd} (h : Inv dS dM iS iM q0 T s m) (h1 : s.inq = []) (h2 : m.inq = []) :
   s.n.State = 6 ∧ m.n.State = 6 ∧ s.db = loadD dS (reqL dS dM) ∧ m.db = loadD dM (reqL dM dS) := by
 have fin : ∀ {d e : List Lsa} {self rt : Int} {n : Nbr} {db : List Lsa} {k : Nat}, Thr d e self rt n db k [] [] → n.State = 6 ∧ db = loadD d (reqL d e) := by
   intro d e self rt n db k th
   generalize ho : ([] : List Pkt) = o at th
   cases th with
   | done i hdb h0 ma sq _ _ sent _ _ co =>
     refine ⟨co.st, ?_⟩
     rw [List.drop_eq_nil_iff] at h0
     rw [hdb, List.take_of_length_le h0]
 cases h with
 | A _ _ j e1 e2 e3 e4 c1 c2 g1 g2 => rw [g1] at h1; cases h1
 | B _ _ j e1 e2 e3 e4 c1 c2 g1 g2 => rw [g2] at h2; simp at h2
 | D _ _ r hr e1 e2 e3 e4 c1 c2 g1 g2 => rw [g1] at h1; cases h1
 | E _ _ r hr e1 e2 e3 e4 c1 c2 hn g1 g2 => rw [g2] at h2; cases h2
 | F _ _ r hr e1 e2 e4 k o th hk c2 hn g1 g2 => rw [g2] at h2; cases h2
 | L _ _ e1 e2 kS kM oS wS oM wM tS tM g1 g2 =>
   rw [h1] at g1
   rw [h2] at g2
   obtain ⟨rfl, rfl⟩ := List.append_eq_nil_iff.1 g1.nil_eq.symm
   obtain ⟨rfl, rfl⟩ := List.append_eq_nil_iff.1 g2.nil_eq.symm
   obtain ⟨a1, a2⟩ := fin tS
   obtain ⟨b1, b2⟩ := fin tM
   exact ⟨a1, b1, a2, b2⟩
end
end Go.Proofs.Ytfngaildaoahpaa

/- The exchange of databases, both sides: sizes; what both have at the end. No program. -/
namespace Go.Proofs.Ytfngaildaoahpaa
open Go Go.Am
structure GoodS (s : Sd) : Prop where
  ok : okN s.n
  q1 : 0 ≤ s.n.Seq
  q2 : s.n.Seq < 1099511627776
  ha : ascH s.n.Req
  hr : s.n.Req.length ≤ 60
  asc : asc s.db
  okd : ∀ x ∈ s.db, okD x
  hl : s.db.length ≤ 120
structure GoodP (p : Pkt) : Prop where
  hh : ∀ x ∈ p.Heads, okH x
  hl : p.Heads.length ≤ 60
  kl : p.Keys.length ≤ 16
  ll : p.Lsas.length ≤ 16
  ok : ∀ x ∈ p.Lsas, okD x
theorem co_good {n : Nbr} {rt st : Int} {ma : Bool} {sq : Int} {lst sent req : List Hdr} (c : Co n rt st ma sq lst sent req) (hw : inW rt) (s1 : 0 ≤ sq) (s2 : sq < 1099511627776)
   (l1 : lst.length ≤ 60) (l2 : ∀ x ∈ lst, okH x) (m1 : sent.length ≤ 60) (m2 : ∀ x ∈ sent, okH x) (r1 : req.length ≤ 60) (r2 : ∀ x ∈ req, okH x) (r3 : ascH req) {db : List Lsa} (d1 : asc db) (d2 : ∀ x ∈ db, okD x) (d3 : db.length ≤ 120) (id : Int) (q : List Pkt) : GoodS ⟨n, id, db, q⟩ := by
 refine ⟨⟨?_, ?_, ?_, ?_, ?_, ?_, ?_, ?_, ?_, ?_⟩, ?_, ?_, ?_, ?_, d1, d2, d3⟩
 · rw [c.rt]; exact hw
 · rw [c.sq]; unfold inI; omega
 · rw [c.lst]; omega
 · rw [c.sent]; omega
 · rw [c.req]; omega
 · rw [c.una]; simp
 · rw [c.lst]; exact l2
 · rw [c.sent]; exact m2
 · rw [c.req]; exact r2
 · rw [c.una]; simp
 · simp only; rw [c.sq]; exact s1
 · simp only; rw [c.sq]; exact s2
 · simp only; rw [c.req]; exact r3
 · simp only; rw [c.req]; exact r1
theorem putW_le1 (l : Lsa) : ∀ db : List Lsa, (putW l db).length ≤ db.length + 1
 | [] => by simp [putW]
 | x :: xs => by
   have := putW_le1 l xs
   simp only [putW]
   split
   · simp
   · split
     · simp
     · simp only [List.length_cons]; omega
theorem loadD_len : ∀ (xs d : List Lsa), (loadD d xs).length ≤ d.length + xs.length
 | [], d => by simp [loadD]
 | x :: xs, d => by
   have h1 := loadD_len xs (putW x d)
   have h2 := putW_le1 x d
   have e : loadD d (x :: xs) = loadD (putW x d) xs := rfl
   rw [e]
   simp only [List.length_cons]
   omega
theorem ascH_nil : ascH [] := List.Pairwise.nil
theorem rec_good (d : List Lsa) {hs : List Hdr} (h : ∀ x ∈ hs, okH x) (hl : hs.length ≤ 60) : ascH (recL d hs []) ∧ (recL d hs []).length ≤ 60 ∧ ∀ x ∈ recL d hs [], okH x := by
 refine ⟨recL_asc d hs ascH_nil, ?_, fun x hx => ?_⟩
 · have := recL_len d hs ascH_nil
   simp only [List.length_nil] at this
   omega
 · rcases recL_mem d hs ascH_nil x hx with h1 | ⟨h1, _⟩
   · cases h1
   · exact h x h1
section
variable {dS dM : List Lsa} {iS iM q0 : Int}
theorem thr_good {d e : List Lsa} (hd : asc d) (he : asc e) (kd : ∀ x ∈ d, okD x) (ke : ∀ x ∈ e, okD x) (ld : d.length ≤ 60) (le : e.length ≤ 60) {self rt : Int} (hw : inW rt) {n : Nbr} {db : List Lsa} {k : Nat} {o w : List Pkt} (t : Thr d e self rt n db k o w) (id : Int) (q : List Pkt) :
   GoodS ⟨n, id, db, q⟩ ∧ (∀ p ∈ o ++ w, GoodP p) ∧ o.length ≤ 1 ∧ w.length ≤ 1 := by
 have hdb : ∀ i, db = loadD d ((reqL d e).take (16 * i)) → asc db ∧ (∀ x ∈ db, okD x) ∧ db.length ≤ 120 := by
   rintro i rfl
   refine ⟨loadD_asc _ hd, fun x hx => ?_, ?_⟩
   · rcases loadD_mem _ hd x hx with h | h
     · exact ke x (List.mem_filter.1 (List.mem_of_mem_take h)).1
     · exact kd x h
   · have h1 := loadD_len ((reqL d e).take (16 * i)) d
     have h2 := req_len d e
     rw [List.length_take] at h1
     omega
 have hrem : ∀ i l, (reqL d e).drop (16 * i) = l → asc l ∧ (∀ x ∈ l, okD x) ∧ l.length ≤ 60 := by
   rintro i l rfl
   refine ⟨List.Pairwise.sublist (List.drop_sublist _ _) (reqL_asc d he), fun x hx => ke x (List.mem_filter.1 (List.mem_of_mem_drop hx)).1, ?_⟩
   have h2 := req_len d e
   rw [List.length_drop]
   omega
 cases t with
 | done i hdb' h0 ma sq s1 s2 sent hs hso co =>
   obtain ⟨a1, a2, a3⟩ := hdb i hdb'
   exact ⟨co_good co hw s1 s2 (by simp) (by simp) (by omega) hso (by simp) (by simp) ascH_nil a1 a2 a3 id q, by simp, by simp, by simp⟩
 | asked i hdb' l hl h0 ma sq s1 s2 sent hs hso co =>
   obtain ⟨a1, a2, a3⟩ := hdb i hdb'
   obtain ⟨b1, b2, b3⟩ := hrem i l hl
   refine ⟨co_good co hw s1 s2 (by simp) (by simp) (by omega) hso (by rw [hdE_length]; exact b3) (okH_of b2) (hdE_asc b1) a1 a2 a3 id q, ?_, by simp, by simp⟩
   intro p hp
   simp only [List.append_nil, List.mem_singleton] at hp
   subst hp
   exact ⟨by simp [reqP, pkt0], by simp [reqP, pkt0], by simp only [reqP, List.length_map, List.length_take]; omega, by simp [reqP, pkt0], by simp [reqP, pkt0]⟩
 | told i hdb' l hl h0 ma sq s1 s2 sent hs hso co =>
   obtain ⟨a1, a2, a3⟩ := hdb i hdb'
   obtain ⟨b1, b2, b3⟩ := hrem i l hl
   refine ⟨co_good co hw s1 s2 (by simp) (by simp) (by omega) hso (by rw [hdE_length]; exact b3) (okH_of b2) (hdE_asc b1) a1 a2 a3 id q, ?_, by simp, by simp⟩
   intro p hp
   simp only [List.nil_append, List.mem_singleton] at hp
   subst hp
   exact ⟨by simp [pkU, pkt0], by simp [pkU, pkt0], by simp [pkU, pkt0], by simp only [pkU, List.length_take]; omega, fun x hx => b2 x (List.mem_of_mem_take hx)⟩
theorem dat_good {self sq : Int} {heads : List Hdr} {more ma : Bool} (h : ∀ x ∈ heads, okH x) (hl : heads.length ≤ 60) : GoodP (dat self sq heads more ma) :=
 ⟨h, hl, by simp [dat, pkt0], by simp [dat, pkt0], by simp [dat, pkt0]⟩
theorem fst_good {self sq : Int} : GoodP (fstP self sq) := ⟨by simp [fstP, pkt0], by simp [fstP, pkt0], by simp [fstP, pkt0], by simp [fstP, pkt0], by simp [fstP, pkt0]⟩
theorem rst_mem {l : List Hdr} {r : Nat} {x : Hdr} (h : x ∈ rstH l r) : x ∈ l := List.mem_of_mem_drop h
theorem rst_len (l : List Hdr) (r : Nat) : (rstH l r).length ≤ l.length := by unfold rstH; rw [List.length_drop]; omega
theorem inv_good (t : Two dS dM iS iM q0) {T : Nat} {s m : Sd} (h : Inv dS dM iS iM q0 T s m) :
   GoodS s ∧ GoodS m ∧ (∀ p ∈ s.inq, GoodP p) ∧ (∀ p ∈ m.inq, GoodP p) ∧ s.inq.length ≤ 2 ∧ m.inq.length ≤ 2 := by
 have hq1 := t.q1
 have hq2 := t.q2
 have oS := okH_of t.okS
 have oM := okH_of t.okM
 have lS : (hdE dS).length ≤ 60 := by rw [hdE_length]; exact t.lS
 have lM : (hdE dM).length ≤ 60 := by rw [hdE_length]; exact t.lM
 have l1 : dS.length ≤ 120 := Nat.le_trans t.lS (by decide)
 have l2 : dM.length ≤ 120 := Nat.le_trans t.lM (by decide)
 have bl : ∀ l r, (batH l r).length ≤ 60 := fun l r => Nat.le_trans (batH_len l r) (by decide)
 have tk : ∀ (l : List Hdr) (k : Nat), l.length ≤ 60 → (l.take k).length ≤ 60 := fun l k h => by rw [List.length_take]; omega
 cases h with
 | A s m j e1 e2 e3 e4 c1 c2 h1 h2 =>
   have g1 := co_good c1 t.wM hq1 (by omega) (by simp) (by simp) (by simp) (by simp) (by simp) (by simp) ascH_nil t.aS t.okS l1 s.id s.inq
   have g2 := co_good c2 t.wS hq1 (by omega) (by simp) (by simp) (by simp) (by simp) (by simp) (by simp) ascH_nil t.aM t.okM l2 m.id m.inq
   rw [← e3] at g1
   rw [← e4] at g2
   refine ⟨g1, g2, ?_, ?_, ?_, ?_⟩
   · rw [h1]; intro p hp; obtain rfl := List.mem_singleton.1 hp; exact fst_good
   · rw [h2]; cases j
     · simp
     · intro p hp; obtain rfl := List.mem_singleton.1 hp; exact fst_good
   · rw [h1]; simp
   · rw [h2]; cases j <;> simp
 | B s m j e1 e2 e3 e4 c1 c2 h1 h2 =>
   have g1 := co_good c1 t.wM hq1 (by omega) (Nat.le_trans (rst_len _ _) lS) (fun x hx => oS x (rst_mem hx)) (bl _ _) (fun x hx => oS x (batH_mem hx)) (by simp) (by simp) ascH_nil t.aS t.okS l1 s.id s.inq
   have g2 := co_good c2 t.wS hq1 (by omega) (by simp) (by simp) (by simp) (by simp) (by simp) (by simp) ascH_nil t.aM t.okM l2 m.id m.inq
   rw [← e3] at g1
   rw [← e4] at g2
   refine ⟨g1, g2, by rw [h1]; simp, ?_, by rw [h1]; simp, by rw [h2]; cases j <;> simp⟩
   rw [h2]
   intro p hp
   rcases List.mem_append.1 hp with hp | hp
   · cases j
     · cases hp
     · obtain rfl := List.mem_singleton.1 hp; exact fst_good
   · obtain rfl := List.mem_singleton.1 hp
     exact dat_good (fun x hx => oS x (batH_mem hx)) (bl _ _)
 | D s m r hr e1 e2 e3 e4 c1 c2 h1 h2 =>
   obtain ⟨r1, r2, r3⟩ := rec_good dS (hs := (hdE dM).take (16 * r)) (fun x hx => oM x (List.mem_of_mem_take hx)) (tk _ _ lM)
   obtain ⟨u1, u2, u3⟩ := rec_good dM (hs := (hdE dS).take (16 * (r + 1))) (fun x hx => oS x (List.mem_of_mem_take hx)) (tk _ _ lS)
   have g1 := co_good c1 t.wM (by omega) (by omega) (Nat.le_trans (rst_len _ _) lS) (fun x hx => oS x (rst_mem hx)) (bl _ _) (fun x hx => oS x (batH_mem hx)) r2 r3 r1 t.aS t.okS l1 s.id s.inq
   have g2 := co_good c2 t.wS (by omega) (by omega) (Nat.le_trans (rst_len _ _) lM) (fun x hx => oM x (rst_mem hx)) (bl _ _) (fun x hx => oM x (batH_mem hx)) u2 u3 u1 t.aM t.okM l2 m.id m.inq
   rw [← e3] at g1
   rw [← e4] at g2
   refine ⟨g1, g2, ?_, by rw [h2]; simp, by rw [h1]; simp, by rw [h2]; simp⟩
   rw [h1]
   intro p hp
   obtain rfl := List.mem_singleton.1 hp
   exact dat_good (fun x hx => oM x (batH_mem hx)) (bl _ _)
 | E s m r hr e1 e2 e3 e4 c1 c2 hn h1 h2 =>
   obtain ⟨r1, r2, r3⟩ := rec_good dS (hs := (hdE dM).take (16 * (r + 1))) (fun x hx => oM x (List.mem_of_mem_take hx)) (tk _ _ lM)
   obtain ⟨u1, u2, u3⟩ := rec_good dM (hs := (hdE dS).take (16 * (r + 1))) (fun x hx => oS x (List.mem_of_mem_take hx)) (tk _ _ lS)
   have g1 := co_good c1 t.wM (by omega) (by omega) (Nat.le_trans (rst_len _ _) lS) (fun x hx => oS x (rst_mem hx)) (bl _ _) (fun x hx => oS x (batH_mem hx)) r2 r3 r1 t.aS t.okS l1 s.id s.inq
   have g2 := co_good c2 t.wS (by omega) (by omega) (Nat.le_trans (rst_len _ _) lM) (fun x hx => oM x (rst_mem hx)) (bl _ _) (fun x hx => oM x (batH_mem hx)) u2 u3 u1 t.aM t.okM l2 m.id m.inq
   rw [← e3] at g1
   rw [← e4] at g2
   refine ⟨g1, g2, by rw [h1]; simp, ?_, by rw [h1]; simp, by rw [h2]; simp⟩
   rw [h2]
   intro p hp
   obtain rfl := List.mem_singleton.1 hp
   exact dat_good (fun x hx => oS x (batH_mem hx)) (bl _ _)
 | F s m r hr e1 e2 e4 k o th hk c2 hn h1 h2 =>
   obtain ⟨u1, u2, u3⟩ := rec_good dM (hs := (hdE dS).take (16 * (r + 1))) (fun x hx => oS x (List.mem_of_mem_take hx)) (tk _ _ lS)
   obtain ⟨g1, p1, p2, _⟩ := thr_good t.aS t.aM t.okS t.okM t.lS t.lM t.wM th s.id s.inq
   have g2 := co_good c2 t.wS (by omega) (by omega) (Nat.le_trans (rst_len _ _) lM) (fun x hx => oM x (rst_mem hx)) (bl _ _) (fun x hx => oM x (batH_mem hx)) u2 u3 u1 t.aM t.okM l2 m.id m.inq
   rw [← e4] at g2
   refine ⟨g1, g2, by rw [h1]; simp, ?_, by rw [h1]; simp, by rw [h2]; simp; omega⟩
   rw [h2]
   intro p hp
   rcases List.mem_cons.1 hp with rfl | hp
   · exact dat_good (fun x hx => oS x (batH_mem hx)) (bl _ _)
   · exact p1 p (by simp [hp])
 | L s m e1 e2 kS kM oS' wS oM' wM tS tM h1 h2 =>
   obtain ⟨g1, p1, a1, a2⟩ := thr_good t.aS t.aM t.okS t.okM t.lS t.lM t.wM tS s.id s.inq
   obtain ⟨g2, p2, b1, b2⟩ := thr_good t.aM t.aS t.okM t.okS t.lM t.lS t.wS tM m.id m.inq
   refine ⟨g1, g2, fun p hp => ?_, fun p hp => ?_, ?_, ?_⟩
   · rcases List.mem_append.1 (h1.subset hp) with h | h
     · exact p2 p (List.mem_append.2 (.inl h))
     · exact p1 p (List.mem_append.2 (.inr h))
   · rcases List.mem_append.1 (h2.subset hp) with h | h
     · exact p1 p (List.mem_append.2 (.inl h))
     · exact p2 p (List.mem_append.2 (.inr h))
   · have := h1.length_eq
     rw [List.length_append] at this
     omega
   · have := h2.length_eq
     rw [List.length_append] at this
     omega
end
theorem sorted_ext : ∀ {a b : List LKey}, a.Pairwise ltY → b.Pairwise ltY → (∀ k, k ∈ a ↔ k ∈ b) → a = b
 | [], [], _, _, _ => rfl
 | [], y :: ys, _, _, h => by have := (h y).2 (by simp); cases this
 | x :: xs, [], _, _, h => by have := (h x).1 (by simp); cases this
 | x :: xs, y :: ys, ha, hb, h => by
   have hxy : x = y := by
     rcases List.mem_cons.1 ((h x).1 (by simp)) with e | hx
     · exact e
     · rcases List.mem_cons.1 ((h y).2 (by simp)) with e | hy
       · exact e.symm
       · exact absurd (List.rel_of_pairwise_cons ha hy) (ltY_asymm (List.rel_of_pairwise_cons hb hx))
   subst hxy
   have ih := sorted_ext (List.Pairwise.of_cons ha) (List.Pairwise.of_cons hb) (fun k => ⟨fun hk => by
     rcases List.mem_cons.1 ((h k).1 (List.mem_cons_of_mem _ hk)) with e | h2
     · exact absurd e.symm (ltY_ne (List.rel_of_pairwise_cons ha hk))
     · exact h2, fun hk => by
     rcases List.mem_cons.1 ((h k).2 (List.mem_cons_of_mem _ hk)) with e | h2
     · exact absurd e.symm (ltY_ne (List.rel_of_pairwise_cons hb hk))
     · exact h2⟩)
   rw [ih]
theorem key_find {db : List Lsa} {k : LKey} : k ∈ db.map keyA ↔ (db.find? (hasK k)).isSome = true := by
 constructor
 · intro h
   obtain ⟨x, hx, rfl⟩ := List.mem_map.1 h
   rw [List.find?_isSome]
   exact ⟨x, hx, by simp [hasK]⟩
 · intro h
   rw [List.find?_isSome] at h
   obtain ⟨x, hx, e⟩ := h
   exact List.mem_map.2 ⟨x, hx, by simpa [hasK] using e⟩
theorem fin_keys {d e : List Lsa} (hd : asc d) (he : asc e) (k : LKey) : k ∈ (loadD d (reqL d e)).map keyA ↔ k ∈ d.map keyA ∨ k ∈ e.map keyA := by
 rw [key_find, loadD_find _ hd (reqL_asc d he)]
 constructor
 · intro h
   cases hf : (reqL d e).find? (hasK k) with
   | some x =>
     have h1 := (find_mem (reqL_asc d he)).1 hf
     exact .inr (List.mem_map.2 ⟨x, (List.mem_filter.1 h1.1).1, h1.2⟩)
   | none =>
     rw [hf] at h
     exact .inl (key_find.2 h)
 · intro h
   by_cases hk : k ∈ d.map keyA
   · have h1 := key_find.1 hk
     cases hf : (reqL d e).find? (hasK k) with
     | some x => rfl
     | none => exact h1
   · rcases h with h | h
     · exact absurd h hk
     · obtain ⟨y, hy, rfl⟩ := List.mem_map.1 h
       have hn : d.find? (hasK (keyH y.H)) = none := by
         cases hf : d.find? (hasK (keyH y.H)) with
         | none => rfl
         | some z => exact absurd (key_find.2 (by rw [show keyA y = keyH y.H from rfl, hf]; rfl)) hk
       have hr : y ∈ reqL d e := List.mem_filter.2 ⟨hy, decide_eq_true (cmpD_none hn)⟩
       have h1 : (reqL d e).find? (hasK (keyA y)) = some y := (find_mem (reqL_asc d he)).2 ⟨hr, rfl⟩
       rw [h1]
       rfl
theorem fin_same {d e : List Lsa} (hd : asc d) (he : asc e) : (loadD d (reqL d e)).map keyA = (loadD e (reqL e d)).map keyA := by
 have h1 := loadD_asc (reqL d e) hd
 have h2 := loadD_asc (reqL e d) he
 refine sorted_ext ?_ ?_ fun k => ?_
 · rw [List.pairwise_map]; exact h1
 · rw [List.pairwise_map]; exact h2
 · rw [fin_keys hd he, fin_keys he hd]
   exact Or.comm
theorem fin_mine {d e : List Lsa} (hd : asc d) (he : asc e) (hda : ∀ x ∈ d, inI x.H.Age) (hea : ∀ x ∈ e, inI x.H.Age) {y : Lsa} (hy : y ∈ d) : cmpD (loadD d (reqL d e)) y.H ≠ 1 := by
 have hs := cmpH_self y.H (hda y hy)
 have hdf : d.find? (hasK (keyH y.H)) = some y := (find_mem hd).2 ⟨hy, rfl⟩
 have hf := loadD_find _ hd (reqL_asc d he) (keyH y.H)
 cases hr : (reqL d e).find? (hasK (keyH y.H)) with
 | none =>
   rw [hr, hdf] at hf
   rw [cmpD_some (x := y) hf]
   omega
 | some z =>
   rw [hr] at hf
   have hf2 : (loadD d (reqL d e)).find? (hasK (keyH y.H)) = some z := hf
   rw [cmpD_some hf2]
   obtain ⟨z1, z2⟩ := (find_mem (reqL_asc d he)).1 hr
   have z3 := List.mem_filter.1 z1
   have z4 : cmpD d z.H = 1 := of_decide_eq_true z3.2
   have z5 : d.find? (hasK (keyH z.H)) = some y := by
     have : keyH z.H = keyH y.H := z2
     rw [this]; exact hdf
   rw [cmpD_some z5] at z4
   have := cmpH_neg y.H z.H (hda y hy) (hea z z3.1)
   omega
theorem fin_other {d e : List Lsa} (hd : asc d) (he : asc e) (hea : ∀ x ∈ e, inI x.H.Age) {y : Lsa} (hy : y ∈ e) : cmpD (loadD d (reqL d e)) y.H ≠ 1 := by
 have hs := cmpH_self y.H (hea y hy)
 have hf := loadD_find _ hd (reqL_asc d he) (keyH y.H)
 by_cases hc : cmpD d y.H = 1
 · have hr : y ∈ reqL d e := List.mem_filter.2 ⟨hy, decide_eq_true hc⟩
   have h1 : (reqL d e).find? (hasK (keyH y.H)) = some y := (find_mem (reqL_asc d he)).2 ⟨hr, rfl⟩
   rw [h1] at hf
   have hf2 : (loadD d (reqL d e)).find? (hasK (keyH y.H)) = some y := hf
   rw [cmpD_some hf2]
   omega
 · have h1 : (reqL d e).find? (hasK (keyH y.H)) = none := by
     refine find_none.2 fun z hz e2 => ?_
     have z3 := List.mem_filter.1 hz
     have : z = y := asc_inj he z3.1 hy e2
     subst this
     exact hc (of_decide_eq_true z3.2)
   rw [h1] at hf
   have hf2 : (loadD d (reqL d e)).find? (hasK (keyH y.H)) = d.find? (hasK (keyH y.H)) := hf
   rw [cmpD_congr hf2]
   exact hc
theorem fin_mem {d e : List Lsa} (hd : asc d) {x : Lsa} (hx : x ∈ loadD d (reqL d e)) : x ∈ d ∨ x ∈ e := by
 rcases loadD_mem _ hd x hx with h | h
 · exact .inr (List.mem_filter.1 h).1
 · exact .inl h
end Go.Proofs.Ytfngaildaoahpaa

/- The exchange of databases, both sides: young, keys, Equal. -/
namespace Go.Proofs.Ytfngaildaoahpaa
open Go Go.Am
def youngB (db : List Lsa) : Bool := db.all fun x => decide (x.H.Age < 3600)
set_option maxHeartbeats 2000000 in
set_option maxRecDepth 10000 in
theorem b30 (db : List Lsa) (n : Nat) (hn : db.length = n) (hlen : n < 1099511627776) : CFun Try.prog 30 [.sl 15 (db.map encA) .sh] [] (.bool (youngB db)) [] := by
 refine CFun.intro (tr := []) (fz := []) (n := 17) (rs := [.tmp 2]) Try.func30 rfl (by kernel_rfl) rfl rfl mixed (by kernel_rfl) (by simp) (by simp) ?_
 simp [hn]
 refine LoopK.intro (tr := []) mixed (by kernel_rfl) (fun i : Nat => [(0, .sl 15 (db.map encA) .sh), (5, .int .i64 n), (6, .int .i64 i)]) (fun _ => []) (fun i => i ≤ n ∧ youngB db = youngB (db.drop i)) (fun i => n - i) 0 ?_ ?_ ?_
 · simp
 · simp [hn]
 · rintro i ⟨h1, h2⟩
   by_cases hi : i < n
   · obtain ⟨x, hx, hd⟩ := get_drop (l := db) (i := i) (by omega)
     rw [hd] at h2
     have w1 : IntKind.i64.wrap ((i : Int) + 1) = i + 1 := wrap_in (by omega)
     clear hd
     by_cases e : x.H.Age < 3600
     · have hy : youngB (x :: db.drop (i + 1)) = youngB (db.drop (i + 1)) := by simp [youngB, e]
       have e' : ¬ 3600 ≤ x.H.Age := by omega
       rw [hy] at h2
       simp [hi, hn, hx, gE hx, w1, e']
       exact ⟨i + 1, ⟨by omega, h2⟩, by omega, by simp⟩
     · have hy : youngB (x :: db.drop (i + 1)) = false := by simp [youngB, e]
       have e' : 3600 ≤ x.H.Age := by omega
       rw [hy] at h2
       simp [hi, hn, hx, gE hx, w1, e', h2]
   · have : i = n := by omega
     subst this
     rw [List.drop_eq_nil_of_le (by omega)] at h2
     have h3 : youngB db = true := by rw [h2]; rfl
     simp [hn, h3]
@[simp] def cellsZk (k : LKey) : List AVal := [.int .i64 k.Ty, .int .u32 k.ID, .int .i64 k.Len, .int .u32 k.Router, .int .i64 0, .int .i64 0, .int .i64 0, .bool false, .bool false, .sl 0 [] .full, .sl 0 [] .full, .int .i64 0, .bool false, .int .u32 0, .int .i64 0]
@[simp] def encZk (k : LKey) : AVal := .agg (cellsZk k)
set_option maxHeartbeats 4000000 in
set_option maxRecDepth 10000 in
theorem b33 (db : List Lsa) (n : Nat) (hn : db.length = n) (hlen : n < 1000000) : CFun Try.prog 33 [.sl 15 (db.map encA) .sh] [] (.sl 15 ((db.map keyA).map encZk) .sh) [] := by
 refine CFun.intro (tr := [18]) (fz := []) (n := 33) (rs := [.tmp 2]) Try.func33 rfl (by kernel_rfl) rfl rfl mixed (by kernel_rfl) (by simp) (by simp) ?_
 have hkey : ∀ (i : Nat) (x : Lsa), db[i]? = some x → (db.map keyA)[i]? = some (keyA x) := fun i x hx => by simp [hx]
 have hkl : (db.map keyA).length = n := by simp [hn]
 generalize db.map keyA = K at *
 simp [hn]
 refine LoopK.intro (tr := [18]) mixed (by kernel_rfl) (fun i : Nat => [(0, .sl 15 (db.map encA) .sh), (3, .sl 15 ((K.take i).map encZk) .own), (8, .int .i64 n), (9, .int .i64 i)]) (fun _ => [])
   (fun i => i ≤ n) (fun i => n - i) 0 ?_ ?_ ?_
 · exact Nat.zero_le _
 · simp [hn]
 · rintro i h1
   by_cases hi : i < n
   · obtain ⟨x, hx, hd⟩ := get_drop (l := db) (i := i) (by omega)
     have w1 : IntKind.i64.wrap ((i : Int) + 1) = i + 1 := wrap_in (by omega)
     have h := fun H => (c26 x.H).up' H rfl rfl
     have hk := hkey i x hx
     have ht : K.take (i + 1) = K.take i ++ [keyA x] := by rw [List.take_add_one, hk]; rfl
     have hl : (K.take i).length = i := by simp; omega
     have s1 : i + 1 ≤ 140737488355328 := by omega
     have s2 : (i + 1) * 136 ≤ 140737488355328 := by omega
     generalize K.take i = o at *
     clear hd hk
     have e : keyH x.H = keyA x := rfl
     rw [e] at h
     generalize keyA x = k at *
     simp [hi, hn, hx, gE hx]
     refine ⟨_, _, .inl (by simpa using h _), by simp, ?_⟩
     simp [hl, s1, s2, w1]
     exact ⟨i + 1, by omega, by omega, by simp [← List.map_take, ht]⟩
   · have : i = n := by omega
     subst this
     have ht : K.take i = K := List.take_of_length_le (by omega)
     simp [hn, ← List.map_take, ht]
theorem b40 (k : LKey) : CFun Try.prog 40 [encZk k, encZk k] [] (.bool true) [] := by
 have h := c20 { lsa0 with H := ⟨k.Ty, k.ID, k.Len, k.Router, 0, 0, 0⟩ } { lsa0 with H := ⟨k.Ty, k.ID, k.Len, k.Router, 0, 0, 0⟩ } (by simp [lsa0]) (by simp [lsa0])
 rw [sameB_self, decide_eq_true rfl] at h
 refine h.wk [encZk k, encZk k] (by simp) ?_
 simp [All2, LeS, LeC, lsa0]
set_option maxHeartbeats 4000000 in
set_option maxRecDepth 10000 in
theorem b32 (l : List LKey) (n : Nat) (hn : l.length = n) (hlen : n < 1099511627776) : CFun Try.prog 32 [.sl 15 (l.map encZk) .sh, .sl 15 (l.map encZk) .sh] [] (.bool true) [] := by
 refine CFun.intro (tr := []) (fz := []) (n := 27) (rs := [.tmp 4]) Try.func32 rfl (by kernel_rfl) rfl rfl mixed (by kernel_rfl) (by simp) (by simp) ?_
 simp [hn]
 refine LoopK.intro (tr := []) mixed (by kernel_rfl) (fun i : Nat => [(0, .sl 15 (l.map encZk) .sh), (1, .sl 15 (l.map encZk) .sh), (5, .int .i64 i)]) (fun _ => []) (fun i => i ≤ n) (fun i => n - i) 0 ?_ ?_ ?_
 · simp
 · simp
 · rintro i h1
   by_cases hi : i < n
   · obtain ⟨x, hx, hd⟩ := get_drop (l := l) (i := i) (by omega)
     have w1 : IntKind.i64.wrap ((i : Int) + 1) = i + 1 := wrap_in (by omega)
     have h := fun H => (b40 x).up' H rfl rfl
     clear hd
     simp [hi, hn, hx, gE hx]
     refine ⟨_, _, .inl (by simpa using h _), by simp, ?_⟩
     simp [w1]
     exact ⟨i + 1, by omega, by omega, by simp⟩
   · simp [hi, hn]
end Go.Proofs.Ytfngaildaoahpaa

/- The exchange of databases, both sides: newest. -/
namespace Go.Proofs.Ytfngaildaoahpaa
open Go Go.Am
theorem okA_len {x : Lsa} (h : okA x) : x.Links.length < 8796093022208 ∧ x.Att.length < 140737488355328 := ⟨h.2.2.2.2.2.2.1, h.2.2.2.2.2.2.2⟩
theorem getD_at {a : List Lsa} (ha : asc a) {x : Lsa} (hx : x ∈ a) : getD_ a (keyA x) = (x, true) := by
 unfold getD_
 rw [(find_mem ha).2 ⟨hx, rfl⟩]
theorem getD_ok {a : List Lsa} (ok : ∀ x ∈ a, okA x) (k : LKey) : (getD_ a k).1.Links.length < 8796093022208 ∧ (getD_ a k).1.Att.length < 140737488355328 := by
 unfold getD_
 cases hf : a.find? (hasK k) with
 | none => simp [lsa0]
 | some x => exact okA_len (ok x (List.mem_of_find?_eq_some hf))
set_option maxHeartbeats 16000000 in
set_option maxRecDepth 10000 in
theorem b34 (db a b : List Lsa) (n p q : Nat) (hn : db.length = n) (hp : a.length = p) (hq : b.length = q) (ln : n < 1000000) (lp : p < 1000000) (lq : q < 1000000)
   (okd : ∀ x ∈ db, okA x) (oka : ∀ x ∈ a, okA x) (okb : ∀ x ∈ b, okA x) (aa : asc a) (ab : asc b) (h1 : ∀ y ∈ a, cmpD db y.H ≠ 1) (h2 : ∀ y ∈ b, cmpD db y.H ≠ 1) (h3 : ∀ x ∈ db, x ∈ a ∨ x ∈ b) :
   CFun Try.prog 34 [.sl 15 (db.map encA) .sh, .sl 15 (a.map encA) .sh, .sl 15 (b.map encA) .sh] [] (.bool true) [] := by
 refine CFun.intro (tr := []) (fz := []) (n := 89) (rs := [.tmp 6]) Try.func34 rfl (by kernel_rfl) rfl rfl mixed (by kernel_rfl) (by simp) (by simp) ?_
 have hage : ∀ x ∈ db, inI x.H.Age := fun x hx => (okd x hx).1.2.2.2.2.2.1
 simp [hp]
 refine LoopK.intro (tr := []) mixed (by kernel_rfl) (fun i : Nat => [(0, .sl 15 (db.map encA) .sh), (1, .sl 15 (a.map encA) .sh), (2, .sl 15 (b.map encA) .sh), (16, .int .i64 p), (17, .int .i64 i)]) (fun _ => []) (fun i => i ≤ p) (fun i => p - i) 0 ?_ ?_ ?_
 · exact Nat.zero_le _
 · simp [hp]
 rintro i i1
 by_cases hi : i < p
 · obtain ⟨y, hy, hd⟩ := get_drop (l := a) (i := i) (by omega)
   clear hd
   have hm := List.mem_of_getElem? hy
   have w1 : IntKind.i64.wrap ((i : Int) + 1) = i + 1 := wrap_in (by omega)
   have hc := h1 y hm
   have k22 := fun H => (f49 db _ rfl (by omega) y.H (oka y hm).1.2.2.2.2.2.1 hage).up' H rfl rfl
   simp [hi, hp, hy, gE hy]
   refine ⟨_, _, .inl (by simpa using k22 _), by simp, ?_⟩
   simp [hc, w1]
   exact ⟨i + 1, by omega, by omega, by simp⟩
 clear h1 i1
 simp [hi, hq]
 refine LoopK.intro (tr := []) mixed (by kernel_rfl) (fun i : Nat => [(0, .sl 15 (db.map encA) .sh), (1, .sl 15 (a.map encA) .sh), (2, .sl 15 (b.map encA) .sh), (30, .int .i64 q), (31, .int .i64 i)]) (fun _ => []) (fun i => i ≤ q) (fun i => q - i) 0 ?_ ?_ ?_
 · exact Nat.zero_le _
 · simp [hq]
 clear hi
 rintro i i1
 by_cases hi : i < q
 · obtain ⟨y, hy, hd⟩ := get_drop (l := b) (i := i) (by omega)
   clear hd
   have hm := List.mem_of_getElem? hy
   have w1 : IntKind.i64.wrap ((i : Int) + 1) = i + 1 := wrap_in (by omega)
   have hc := h2 y hm
   have k22 := fun H => (f49 db _ rfl (by omega) y.H (okb y hm).1.2.2.2.2.2.1 hage).up' H rfl rfl
   simp [hi, hq, hy, gE hy]
   refine ⟨_, _, .inl (by simpa using k22 _), by simp, ?_⟩
   simp [hc, w1]
   exact ⟨i + 1, by omega, by omega, by simp⟩
 clear h2 i1
 simp [hi, hn]
 refine LoopK.intro (tr := []) mixed (by kernel_rfl) (fun i : Nat => [(0, .sl 15 (db.map encA) .sh), (1, .sl 15 (a.map encA) .sh), (2, .sl 15 (b.map encA) .sh), (44, .int .i64 n), (45, .int .i64 i)]) (fun _ => []) (fun i => i ≤ n) (fun i => n - i) 0 ?_ ?_ ?_
 · exact Nat.zero_le _
 · simp [hn]
 clear hi
 rintro i i1
 by_cases hi : i < n
 case neg => simp [hi]
 obtain ⟨x, hx, hd⟩ := get_drop (l := db) (i := i) (by omega)
 clear hd
 have hm := List.mem_of_getElem? hx
 have w1 : IntKind.i64.wrap ((i : Int) + 1) = i + 1 := wrap_in (by omega)
 have k21 := fun H => (c26 x.H).up' H rfl rfl
 have ga := getD_ok oka (keyA x)
 have gb := getD_ok okb (keyA x)
 have ka := fun H => (f39 a p hp (by omega) (keyA x)).up' H rfl rfl
 have kb := fun H => (f39 b q hq (by omega) (keyA x)).up' H rfl rfl
 have sa := fun H => (c20 (getD_ a (keyA x)).1 x ga.1 ga.2).up' H rfl rfl
 have sb := fun H => (c20 (getD_ b (keyA x)).1 x gb.1 gb.2).up' H rfl rfl
 have e0 : keyH x.H = keyA x := rfl
 rw [e0] at k21
 have hor : (getD_ a (keyA x) = (x, true)) ∨ (getD_ b (keyA x) = (x, true)) := by
   rcases h3 x hm with h | h
   · exact .inl (getD_at aa h)
   · exact .inr (getD_at ab h)
 clear ga gb h3 e0
 generalize getD_ a (keyA x) = za at *
 generalize getD_ b (keyA x) = zb at *
 generalize keyA x = k at *
 obtain ⟨za, oa⟩ := za
 obtain ⟨zb, ob⟩ := zb
 simp only at sa sb ka kb
 simp [hi, hn, hx, gE hx]
 refine ⟨_, _, .inl (by simpa using k21 _), by simp, ?_⟩
 simp
 refine ⟨_, _, .inl (by simpa using ka _), by simp, ?_⟩
 simp
 refine ⟨_, _, .inl (by simpa using kb _), by simp, ?_⟩
 rcases hor with h | h
 · obtain ⟨rfl, rfl⟩ := Prod.mk.inj h
   rw [sameB_self, decide_eq_true rfl] at sa
   simp [hx, gE hx]
   refine ⟨_, _, .inl (by simpa [hx, gE hx] using sa _), by simp, ?_⟩
   simp [w1]
   exact ⟨i + 1, by omega, by omega, by simp⟩
 · obtain ⟨rfl, rfl⟩ := Prod.mk.inj h
   rw [sameB_self, decide_eq_true rfl] at sb
   generalize (decide (za.H = zb.H) && sameB za zb) = sv at *
   cases oa
   · simp [hx, gE hx]
     refine ⟨_, _, .inl (by simpa [hx, gE hx] using sb _), by simp, ?_⟩
     simp [w1]
     exact ⟨i + 1, by omega, by omega, by simp⟩
   · simp [hx, gE hx]
     refine ⟨_, _, .inl (by simpa [hx, gE hx] using sa _), by simp, ?_⟩
     cases sv
     · simp [hx, gE hx]
       refine ⟨_, _, .inl (by simpa [hx, gE hx] using sb _), by simp, ?_⟩
       simp [w1]
       exact ⟨i + 1, by omega, by omega, by simp⟩
     · simp [w1]
       exact ⟨i + 1, by omega, by omega, by simp⟩
end Go.Proofs.Ytfngaildaoahpaa

/- The exchange of databases, both sides: what a side hears, by the program: headers and requests. -/
namespace Go.Proofs.Ytfngaildaoahpaa
open Go Go.Am
@[simp] def cellsSd (x : Sd) (v : AVal) : List AVal := cellsN x.n ++ [.int .u32 x.id, .sl 15 (x.db.map encA) .sh, v]
theorem good_x16 {x : Sd} {p : Pkt} (g : GoodS x) (gp : GoodP p) {now : Int} (hw : inI (now + 5)) :
   CFun Try.prog 16 [encN x.n, .int .u32 x.id, .sl 15 (x.db.map encA) .sh, encPk p, .int .i64 now] [] (.tup [encN (recvA x.n x.id x.db p now).1, .sl 18 ((recvA x.n x.id x.db p now).2.1.map encPk) .sh, .int .i64 (recvA x.n x.id x.db p now).2.2]) [] := by
 have h1 := g.hr
 have h2 := gp.hl
 have h3 := g.hl
 exact x16 x.n g.ok x.id x.db p now hw g.q1 g.q2 g.ha (by omega) (by omega) (fun y hy => (g.okd y hy).2) (by omega)
set_option maxHeartbeats 8000000 in
set_option maxRecDepth 10000 in
theorem b31h (x : Sd) (p : Pkt) (now : Int) (g : GoodS x) (gp : GoodP p) (hw : inI (now + 5)) (hk : p.Kind = 2) (off len : Nat) (cap : Option Nat) (R : List AVal) (hR : ∀ k, LeCells k R R) :
   CFun Try.prog 31 [.mix (cellsSd x (.osl 0 off len cap 18)), encPk p, .int .i64 now] [R] (.tup [.mix (cellsSd (hearN x p now).1 (.osl 0 off len cap 18)), .sl 18 ((hearN x p now).2.map encPk) .sh]) [R] := by
 refine CFun.intro (tr := [900001000107, 900002000107, 4500107]) (fz := []) (n := 115) (rs := [.cell 6 66, .tmp 7]) Try.func31 rfl (by kernel_rfl) rfl rfl mixed (by kernel_rfl) (by simp) (by simp) ?_
 have k16 := fun H => (good_x16 g gp hw).up' H rfl rfl
 unfold hearN
 rw [if_pos hk]
 generalize recvA x.n x.id x.db p now = rv at *
 obtain ⟨m, l, e⟩ := rv
 simp only at k16 ⊢
 simp [hk]
 refine ⟨_, _, .inl (by simpa [hk] using k16 _), by simp, ?_⟩
 by_cases he : e = 0
 · simp [he, hR]
 · simp [he, hR]
theorem good_w24 {x : Sd} {p : Pkt} (g : GoodS x) (gp : GoodP p) : CFun Try.prog 24 [.sl 15 (x.db.map encA) .sh, encPk p] [] (encAn (answN x.db p)) [] := by
 have h3 := g.hl
 have h4 := gp.kl
 exact w24 x.db (by omega) (fun y hy => (g.okd y hy).2) p _ rfl (by omega) (fun i hi _ => by omega)
set_option maxHeartbeats 8000000 in
set_option maxRecDepth 10000 in
theorem b31a (x : Sd) (p : Pkt) (now : Int) (g : GoodS x) (gp : GoodP p) (hk : p.Kind = 3) (off len : Nat) (cap : Option Nat) (R : List AVal) (hR : ∀ k, LeCells k R R) :
   CFun Try.prog 31 [.mix (cellsSd x (.osl 0 off len cap 18)), encPk p, .int .i64 now] [R] (.tup [.mix (cellsSd (hearN x p now).1 (.osl 0 off len cap 18)), .sl 18 ((hearN x p now).2.map encPk) .sh]) [R] := by
 refine CFun.intro (tr := [900001000107, 900002000107, 4500107]) (fz := []) (n := 115) (rs := [.cell 6 66, .tmp 7]) Try.func31 rfl (by kernel_rfl) rfl rfl mixed (by kernel_rfl) (by simp) (by simp) ?_
 have k24 := fun H => (good_w24 g gp).up' H rfl rfl
 unfold hearN
 rw [if_neg (by rw [hk]; decide), if_pos hk]
 generalize answN x.db p = rv at *
 obtain ⟨m, e⟩ := rv
 simp only [encAn] at k24 ⊢
 generalize m.map (pkU 0) = l at *
 simp [hk]
 refine ⟨_, _, .inl (by simpa [hk] using k24 _), by simp, ?_⟩
 by_cases he : e = 0
 · simp [he, hR]
 · simp [he, hR]
set_option maxHeartbeats 8000000 in
set_option maxRecDepth 10000 in
theorem b31o (x : Sd) (p : Pkt) (now : Int) (h2 : p.Kind ≠ 2) (h3 : p.Kind ≠ 3) (h4 : p.Kind ≠ 4) (off len : Nat) (cap : Option Nat) (R : List AVal) (hR : ∀ k, LeCells k R R) :
   CFun Try.prog 31 [.mix (cellsSd x (.osl 0 off len cap 18)), encPk p, .int .i64 now] [R] (.tup [.mix (cellsSd (hearN x p now).1 (.osl 0 off len cap 18)), .sl 18 ((hearN x p now).2.map encPk) .sh]) [R] := by
 refine CFun.intro (tr := [900001000107, 900002000107, 4500107]) (fz := []) (n := 115) (rs := [.cell 6 66, .tmp 7]) Try.func31 rfl (by kernel_rfl) rfl rfl mixed (by kernel_rfl) (by simp) (by simp) ?_
 unfold hearN
 rw [if_neg h2, if_neg h3, if_neg h4]
 simp [h2, h3, h4, hR]
end Go.Proofs.Ytfngaildaoahpaa
