/- The exchange of databases: an instance that answers a request, by the reference. -/
import Derived.Test.YtfngaildaoahpaaXC5
import Derived.Test.YtfngaildaoahpaaXP4
import Derived.Test.YtfngaildaoahpaaAmAD
import Derived.Test.YtfngaildaoahpaaXR6
set_option linter.unusedSimpArgs false
set_option linter.unusedVariables false
namespace Go.Proofs.Ytfngaildaoahpaa
open Go Go.Am
end Go.Proofs.Ytfngaildaoahpaa

/- Less is known of the variables. -/

/- The exchange of databases: an instance that answers a request, by the program. -/
namespace Go.Proofs.Ytfngaildaoahpaa
open Go Go.Am
theorem dh_delN (l : List Hdr) (n : Nat) (hn : l.length = n) (h0 : 0 < n) (hlen : n < 8796093022208) (p : Hdr → Bool) (f : FuncId) (fs cs : List AVal) (hfs : fs.all noid0 = true) (hcs : cs.all noid0 = true)
   (hp : ∀ x, CFun Try.prog f (fs ++ [.agg (ceH x)] ++ cs) [] (.bool (p x)) []) : CFun Try.prog 63 [.osl 0 0 n none 7, .fn f fs cs] [rowC ceH l] (.osl 0 0 (l.filter fun x => !p x).length none 7) [delRow ceH 7 p l] := by
 have hfl := (eHh).rowLen l
 rw [hn] at hfl
 have hne : rowC ceH l ≠ [] := by
   intro e
   rw [e] at hfl
   simp at hfl
   omega
 refine CFun.reveal (id := 0) (off := 0) (len := n) (k := 7) (cs := rowC ceH l) 0 rfl rfl hne (fun C hC => ?_) (fun C hC h0 => by omega)
 exact CFun.forget (c := some C) (CFun.less (dh_del l n C hn hC hlen p f fs cs hfs hcs hp) rfl ⟨LeCells_more _ (eHh.rowLe _ l), trivial⟩)
set_option maxHeartbeats 2000000 in
set_option maxRecDepth 10000 in
theorem x43r (n : Nbr) (ok : okN n) (hne : n.Req ≠ []) : CFun Try.prog 43 [encN n] [] (.mix (cellsNx n (.osl 2 0 n.Req.length none 7))) [[], [], rowC ceH n.Req] := by
 refine CFun.intro (tr := []) (fz := []) (n := 20) (rs := [.cell 2 26]) Try.func43 rfl (by kernel_rfl) rfl rfl mixed (by kernel_rfl) (by simp) (by simp) ?_
 have hl1 := ok.lst
 have hl2 := ok.sent
 have hl3 := ok.req
 have hl4 := ok.una
 have k1 := fun H => (ch_row n.Lst (by omega)).up' H rfl rfl
 have k2 := fun H => (ch_row n.Sent (by omega)).up' H rfl rfl
 have k3 : ∀ H, CFun Try.prog 70 [.sl 7 (n.Req.map encH) .sh] H (.osl H.length 0 n.Req.length none 7) (H ++ [rowC ceH n.Req]) := fun H => (ch_clr n.Req hne (by omega)).upNew H (eHh.rowNoid n.Req) rfl rfl
 have k4 := fun H => (ch_row n.Una (by omega)).up' H rfl rfl
 have hle := fun k => eHh.rowLe k n.Req
 simp
 refine ⟨_, _, .inl (k1 _), by simp, ?_⟩
 simp
 refine ⟨_, _, .inl (k2 _), by simp, ?_⟩
 simp
 refine ⟨_, _, .inl (k3 _), by simp, ?_⟩
 simp
 refine ⟨_, _, .inl (k4 _), by simp, ?_⟩
 simp [hle]
end Go.Proofs.Ytfngaildaoahpaa

/- The exchange of databases: Got. -/
namespace Go.Proofs.Ytfngaildaoahpaa
open Go Go.Am
def zN : List AVal := [.int .u32 0, .int .u32 0, .int .i64 0, .int .u32 0, .int .u32 0, .int .i64 0, .int .i64 0, .bool false, .int .i64 0, .sl 0 [] .full, .sl 0 [] .full, .bool false, .sl 0 [] .full, .sl 0 [] .full, .int .i64 0]
set_option maxHeartbeats 2000000 in
set_option maxRecDepth 10000 in
theorem x43z (n : Nbr) (ok : okN n) (hz : n.Req = []) : CFun Try.prog 43 [encN n] [] (.agg (cellsNx n (.sl 7 [] .full))) [] := by
 refine CFun.intro (tr := []) (fz := []) (n := 20) (rs := [.cell 2 26]) Try.func43 rfl (by kernel_rfl) rfl rfl mixed (by kernel_rfl) (by simp) (by simp) ?_
 have hl1 := ok.lst
 have hl2 := ok.sent
 have hl4 := ok.una
 have k1 := fun H => (ch_row n.Lst (by omega)).up' H rfl rfl
 have k2 := fun H => (ch_row n.Sent (by omega)).up' H rfl rfl
 have k3 := fun H => ch_cl0.up' H rfl rfl
 have k4 := fun H => (ch_row n.Una (by omega)).up' H rfl rfl
 simp [hz]
 refine ⟨_, _, .inl (k1 _), by simp, ?_⟩
 simp
 refine ⟨_, _, .inl (k2 _), by simp, ?_⟩
 simp
 refine ⟨_, _, .inl (k3 _), by simp, ?_⟩
 simp
 refine ⟨_, _, .inl (k4 _), by simp, ?_⟩
 simp
end Go.Proofs.Ytfngaildaoahpaa

/- The exchange of databases: what is sent again. -/
namespace Go.Proofs.Ytfngaildaoahpaa
open Go Go.Am
end Go.Proofs.Ytfngaildaoahpaa

/- The law ExchangeGot. -/
namespace Go.Proofs.Ytfngaildaoahpaa
open Go Go.Am
theorem sameP_noL (p : Pkt) (h : p.Lsas = []) : sameP p p = true := by
 simp [sameP, h, eqW]
end Go.Proofs.Ytfngaildaoahpaa

/- The exchange of databases: what Receive answers is the same as itself. -/
namespace Go.Proofs.Ytfngaildaoahpaa
open Go Go.Am
def shortN (n : Nbr) : Prop := n.Lst.length < 8796093022208 ∧ n.Sent.length < 8796093022208 ∧ n.Req.length < 8796093022208 ∧ n.Una.length < 8796093022208
def fineP (l : List Pkt) : Prop := (∀ p ∈ l, okS p ∧ sameP p p = true) ∧ l.length ≤ 2
theorem short_settle {n : Nbr} (h : shortN n) (now : Int) : shortN (settleN n now) := by
 unfold settleN
 split
 · exact h
 · split <;> exact h
theorem short_batch {n : Nbr} (h : shortN n) : shortN (batchN n) := by
 refine ⟨?_, ?_, h.2.2.1, h.2.2.2⟩
 · have := h.1
   simp only [batchN, List.length_drop]
   omega
 · have := h.1
   simp only [batchN, List.length_take]
   omega
theorem short_fin {n : Nbr} (h : shortN n) : shortN (finN n) := by
 unfold finN
 split <;> exact h
theorem pend_ok {n : Nbr} (h : shortN n) (self : Int) : okS (pendN n self) ∧ sameP (pendN n self) (pendN n self) = true := by
 have h2 := h.2.1
 unfold pendN
 split
 · exact ⟨⟨by simp [pkt0, hel0], by simp [pkt0], by simp [pkt0], by simp [pkt0], by simp [pkt0]⟩, sameP_noL _ rfl⟩
 · exact ⟨⟨by simp [pkt0, hel0], by simp [pkt0], by simp [pkt0], h2, by simp [pkt0]⟩, sameP_noL _ rfl⟩
theorem req_ok (n : Nbr) (self : Int) : okS (reqN n self) ∧ sameP (reqN n self) (reqN n self) = true :=
 ⟨⟨by simp [reqN, pkt0, hel0], by simp [reqN]; omega, by simp [reqN, pkt0], by simp [reqN, pkt0], by simp [reqN, pkt0]⟩, sameP_noL _ rfl⟩
theorem fine_nil : fineP [] := ⟨by simp, by simp⟩
theorem fine_one {q : Pkt} (h : okS q ∧ sameP q q = true) : fineP [q] := ⟨fun p hp => by obtain rfl := List.mem_singleton.1 hp; exact h, by simp⟩
theorem fine_fin {n : Nbr} (self : Int) {l : List Pkt} (h : ∀ p ∈ l, okS p ∧ sameP p p = true) (hl : l.length ≤ 1) : fineP (finP n self l) := by
 unfold finP
 split
 · exact ⟨h, by omega⟩
 · refine ⟨fun p hp => ?_, by simp; omega⟩
   rcases List.mem_append.1 hp with hp | hp
   · exact h p hp
   · obtain rfl := List.mem_singleton.1 hp
     exact req_ok _ self
theorem recv_fine (n : Nbr) (self : Int) (db : List Lsa) (p : Pkt) (now : Int) (h : shortN n) (ha : ascH n.Req) (hr : n.Req.length + p.Heads.length < 8796093022208) (hdb : db.length < 8796093022208) :
   shortN (recvA n self db p now).1 ∧ fineP (recvA n self db p now).2.1 := by
 have h0 : shortN nbr0 := ⟨by simp [nbr0], by simp [nbr0], by simp [nbr0], by simp [nbr0]⟩
 have hy := youngD_len db
 have hrec : ∀ m : Nbr, shortN m → m.Req = n.Req → shortN (recordN m db p) := by
   intro m hm e
   refine ⟨hm.1, hm.2.1, ?_, hm.2.2.2⟩
   have := recL_len db p.Heads ha
   simp only [recordN, e]
   omega
 unfold recvA
 split
 · exact ⟨h0, fine_nil⟩
 split
 · exact ⟨h0, fine_nil⟩
 split
 · unfold firstA
   split
   · have h1 : shortN (firstM n db p now) := by
       unfold firstM
       exact short_settle (short_batch (n := { n with State := 4, Master := false, Seq := p.Seq, Lst := youngD db }) ⟨(by show (youngD db).length < _; omega), h.2.1, h.2.2.1, h.2.2.2⟩) now
     exact ⟨h1, fine_one (pend_ok h1 self)⟩
   · split
     · have h1 : shortN (answM n db p now) := by
         unfold answM
         have h2 := hrec { n with State := 4, Lst := youngD db } ⟨(by show (youngD db).length < _; omega), h.2.1, h.2.2.1, h.2.2.2⟩ rfl
         exact short_settle (short_batch (n := { recordN { n with State := 4, Lst := youngD db } db p with Seq := n.Seq + 1 }) ⟨h2.1, h2.2.1, h2.2.2.1, h2.2.2.2⟩) now
       exact ⟨h1, fine_one (pend_ok h1 self)⟩
     · exact ⟨h0, fine_nil⟩
 split
 · exact ⟨h, fine_one (pend_ok h self)⟩
 split
 · exact ⟨h, fine_nil⟩
 split
 · have h1 : shortN (slavM n db p) := short_batch (hrec { n with Seq := p.Seq } h rfl)
   unfold slavO
   split
   · exact ⟨short_settle (short_fin h1) now, fine_fin self (fun q hq => by obtain rfl := List.mem_singleton.1 hq; exact pend_ok h1 self) (by simp)⟩
   · exact ⟨short_settle h1 now, fine_one (pend_ok h1 self)⟩
 split
 · have h1 : shortN (mastM n db p) := hrec n h rfl
   unfold mastO
   split
   · exact ⟨short_settle (short_fin h1) now, fine_fin self (by simp) (by simp)⟩
   · exact ⟨short_settle (short_batch h1) now, fine_one (pend_ok (short_batch h1) self)⟩
 · exact ⟨⟨by simp [startN, plainN, nbr0], by simp [startN, plainN, nbr0], by simp [startN, plainN, nbr0], by simp [startN, plainN, nbr0]⟩, fine_one ⟨⟨by simp [firstN, pkt0, hel0], by simp [firstN, pkt0], by simp [firstN, pkt0], by simp [firstN, pkt0], by simp [firstN, pkt0]⟩, sameP_noL _ rfl⟩⟩
end Go.Proofs.Ytfngaildaoahpaa
