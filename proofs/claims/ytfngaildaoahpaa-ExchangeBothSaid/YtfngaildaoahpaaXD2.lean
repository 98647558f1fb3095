/- The exchange of databases, by the reference: the master's case, a new start. -/
import Derived.Test.YtfngaildaoahpaaXR9
import Derived.Test.YtfngaildaoahpaaXC2
import Derived.Test.YtfngaildaoahpaaXR1
import Derived.Test.YtfngaildaoahpaaAmAD
set_option linter.unusedSimpArgs false
set_option linter.unusedVariables false
namespace Go.Proofs.Ytfngaildaoahpaa
open Go Go.Am
end Go.Proofs.Ytfngaildaoahpaa

/- The exchange of databases, by the reference: a new start. -/
namespace Go.Proofs.Ytfngaildaoahpaa
open Go Go.Am
end Go.Proofs.Ytfngaildaoahpaa

/- The exchange of databases, by the reference: Receive. -/
namespace Go.Proofs.Ytfngaildaoahpaa
open Go Go.Am
end Go.Proofs.Ytfngaildaoahpaa

/- The exchange of databases: a request that is answered. -/
namespace Go.Proofs.Ytfngaildaoahpaa
open Go Go.Am
def wonH (h : Hdr) (l : List Hdr) : List Hdr := l.filter fun r => !(decide (keyH r = keyH h) && decide (0 ≤ cmpH h r))
def lessN (n : Nbr) (l : List Hdr) : Nbr :=
 if n.State = 5 ∧ l = [] then { n with Req := l, State := 6, Rsd := if n.Una = [] then 0 else n.Rsd } else { n with Req := l }
def gotN (n : Nbr) (h : Hdr) : Nbr := if (wonH h n.Req).length < n.Req.length then lessN n (wonH h n.Req) else n
end Go.Proofs.Ytfngaildaoahpaa

/- The exchange of databases: an instance that answers a request, by the reference. -/
namespace Go.Proofs.Ytfngaildaoahpaa
open Go Go.Am
end Go.Proofs.Ytfngaildaoahpaa

/- Less is known of the variables. -/

/- The exchange of databases: an instance that answers a request, by the program. -/
namespace Go.Proofs.Ytfngaildaoahpaa
open Go Go.Am
def answH (h x : Hdr) : Bool := decide (keyH x = keyH h) && decide (0 ≤ cmpH h x)
set_option maxHeartbeats 2000000 in
set_option maxRecDepth 10000 in
theorem x64 (h x : Hdr) : CFun Try.prog 64 [encH x, .iptr (cellsH h) 0] [] (.bool (answH h x)) [] := by
 refine CFun.intro (tr := []) (fz := []) (n := 15) (rs := [.tmp 3]) Try.func64 rfl (by kernel_rfl) rfl rfl mixed (by kernel_rfl) (by simp) (by simp) ?_
 have k1 := fun H => (c25 x).up' H rfl rfl
 have k2 := fun H => (c25 h).up' H rfl rfl
 have k3 := fun H => (c16 h x).up' H rfl rfl
 have hk := keyY_iff (keyH x) (keyH h)
 unfold answH
 generalize keyH x = kx at *
 generalize keyH h = kh at *
 generalize cmpH h x = c at *
 simp
 refine ⟨_, _, .inl (by simpa using k1 _), by simp, ?_⟩
 simp
 refine ⟨_, _, .inl (by simpa using k2 _), by simp, ?_⟩
 by_cases e : kx = kh
 · subst e
   simp
   refine ⟨_, _, .inl (by simpa using k3 _), by simp, ?_⟩
   simp
 · rw [decide_eq_false e] at hk
   simp only [Bool.and_eq_false_iff, beq_eq_false_iff_ne] at hk
   have hk2 : ¬ (kx.Ty = kh.Ty ∧ kx.ID = kh.ID ∧ kx.Len = kh.Len ∧ kx.Router = kh.Router) := by
     rintro ⟨r1, r2, r3, r4⟩
     cases kx; cases kh; simp_all
   simp [hk2, e]
theorem dh_delN (l : List Hdr) (n : Nat) (hn : l.length = n) (h0 : 0 < n) (hlen : n < 8796093022208) (p : Hdr → Bool) (f : FuncId) (fs cs : List AVal) (hfs : fs.all noid0 = true) (hcs : cs.all noid0 = true)
   (hp : ∀ x, CFun Try.prog f (fs ++ [.agg (ceH x)] ++ cs) [] (.bool (p x)) []) : CFun Try.prog 63 [.osl 0 0 n none 7, .fn f fs cs] [rowC ceH l] (.osl 0 0 (l.filter fun x => !p x).length none 7) [delRow ceH 7 p l] := by
 have hfl := (eHh).rowLen l
 rw [hn] at hfl
 have hne : rowC ceH l ≠ [] := by
   intro e
   rw [e] at hfl
   simp at hfl
   omega
 refine CFun.reveal (id := 0) (off := 0) (len := n) (k := 7) (cs := rowC ceH l) 0 rfl rfl hne (fun C hC => ?_) (fun C hC h0 => by omega)
 exact CFun.forget (c := some C) (CFun.less (dh_del l n C hn hC hlen p f fs cs hfs hcs hp) rfl ⟨LeCells_more _ (eHh.rowLe _ l), trivial⟩)
set_option maxHeartbeats 2000000 in
set_option maxRecDepth 10000 in
theorem x43r (n : Nbr) (ok : okN n) (hne : n.Req ≠ []) : CFun Try.prog 43 [encN n] [] (.mix (cellsNx n (.osl 2 0 n.Req.length none 7))) [[], [], rowC ceH n.Req] := by
 refine CFun.intro (tr := []) (fz := []) (n := 20) (rs := [.cell 2 26]) Try.func43 rfl (by kernel_rfl) rfl rfl mixed (by kernel_rfl) (by simp) (by simp) ?_
 have hl1 := ok.lst
 have hl2 := ok.sent
 have hl3 := ok.req
 have hl4 := ok.una
 have k1 := fun H => (ch_row n.Lst (by omega)).up' H rfl rfl
 have k2 := fun H => (ch_row n.Sent (by omega)).up' H rfl rfl
 have k3 : ∀ H, CFun Try.prog 70 [.sl 7 (n.Req.map encH) .sh] H (.osl H.length 0 n.Req.length none 7) (H ++ [rowC ceH n.Req]) := fun H => (ch_clr n.Req hne (by omega)).upNew H (eHh.rowNoid n.Req) rfl rfl
 have k4 := fun H => (ch_row n.Una (by omega)).up' H rfl rfl
 have hle := fun k => eHh.rowLe k n.Req
 simp
 refine ⟨_, _, .inl (k1 _), by simp, ?_⟩
 simp
 refine ⟨_, _, .inl (k2 _), by simp, ?_⟩
 simp
 refine ⟨_, _, .inl (k3 _), by simp, ?_⟩
 simp
 refine ⟨_, _, .inl (k4 _), by simp, ?_⟩
 simp [hle]
end Go.Proofs.Ytfngaildaoahpaa

/- The exchange of databases: Got. -/
namespace Go.Proofs.Ytfngaildaoahpaa
open Go Go.Am
def zN : List AVal := [.int .u32 0, .int .u32 0, .int .i64 0, .int .u32 0, .int .u32 0, .int .i64 0, .int .i64 0, .bool false, .int .i64 0, .sl 0 [] .full, .sl 0 [] .full, .bool false, .sl 0 [] .full, .sl 0 [] .full, .int .i64 0]
theorem gotN_eq (n : Nbr) (h : Hdr) : gotN n h = if (wonH h n.Req).length < n.Req.length ∧ n.State = 5 ∧ wonH h n.Req = [] then { n with Req := wonH h n.Req, State := 6, Rsd := if n.Una = [] then 0 else n.Rsd } else { n with Req := wonH h n.Req } := by
 unfold gotN lessN
 by_cases hc : (wonH h n.Req).length < n.Req.length
 · rw [if_pos hc]
   by_cases hd : n.State = 5 ∧ wonH h n.Req = []
   · rw [if_pos hd, if_pos (show _ ∧ n.State = 5 ∧ _ from ⟨hc, hd⟩)]
   · rw [if_neg hd, if_neg (show ¬ (_ ∧ n.State = 5 ∧ _) from fun q => hd q.2)]
 · rw [if_neg hc, if_neg (show ¬ (_ ∧ n.State = 5 ∧ _) from fun q => hc q.1)]
   have e : wonH h n.Req = n.Req := by
     have h1 : (wonH h n.Req).length = n.Req.length := Nat.le_antisymm (List.length_filter_le _ _) (by omega)
     exact List.Sublist.eq_of_length List.filter_sublist h1
   rw [e]
set_option maxHeartbeats 8000000 in
set_option maxRecDepth 10000 in
theorem x28 (n : Nbr) (ok : okN n) (hne : n.Req ≠ []) (h : Hdr) : CFun Try.prog 28 [encN n, encH h] [] (encN (gotN n h)) [] := by
 refine CFun.intro (tr := [4000003000002]) (fz := [(502012, 5, true)]) (n := 39) (rs := [.cell 4 26]) Try.func28 rfl (by kernel_rfl) rfl rfl mixed (by kernel_rfl) (by simp) (by simp) ?_
 have hl := ok.req
 have h0 : 0 < n.Req.length := List.length_pos_iff.2 hne
 have h43 := (x43r n ok hne).upAll [cellsN n, cellsH h, zN] (by simp [eHh.rowNoid, -List.all_eq_true]) rfl rfl
 have h63 := (dh_delN n.Req _ rfl h0 (by omega) (answH h) 64 [] [.iptr (cellsH h) 0] rfl rfl (fun x => x64 h x)).at (H := [cellsNx n (.osl 5 0 n.Req.length none 7), [], zN, [], [], rowC ceH n.Req]) (id := 5) rfl (eHh.rowNoid n.Req) (eHh.roomNoid _ _) (by simp [low, low0]) rfl
 have hfl := List.length_filter_le (fun x => !answH h x) n.Req
 have hdl : (delRow ceH 7 (answH h) n.Req).length = n.Req.length * 7 := by
   simp only [delRow, List.length_append, eHh.rowLen, List.length_replicate]
   omega
 have hdt : (delRow ceH 7 (answH h) n.Req).take ((n.Req.filter fun x => !answH h x).length * 7) = rowC ceH (n.Req.filter fun x => !answH h x) := by
   rw [delRow, List.take_append_of_le_length (by rw [eHh.rowLen]; omega), List.take_of_length_le (by rw [eHh.rowLen]; omega)]
 have hW : (n.Req.filter fun x => !answH h x) = wonH h n.Req := rfl
 have hg := gotN_eq n h
 rw [hW] at hfl hdt h63
 have hnil : wonH h n.Req = [] ↔ (wonH h n.Req).length = 0 := List.length_eq_zero_iff.symm
 generalize wonH h n.Req = W at *
 generalize delRow ceH 7 (answH h) n.Req = D at *
 rw [hg]
 have hch := eHh.chunk W _ rfl
 have htr := eHh.rowTree W
 have hL2 := eHh.rowLen W
 obtain ⟨len, hlen⟩ : ∃ len, n.Req.length = len := ⟨_, rfl⟩
 rw [hlen] at h0 hdl hfl h43 h63 ⊢
 have hpos : 0 < len * 7 := by omega
 simp
 refine ⟨_, _, .inl (by simpa [ren, ren0, ren00, grow, zN] using h43), by simp, ?_⟩
 simp
 refine ⟨_, _, .inl (by simpa [ren, ren0, zN] using h63), by simp, ?_⟩
 by_cases c1 : W.length < len
 case neg =>
   have c1' : ¬ (W.length : Int) < len := by omega
   simp [c1, hdl, hdt, hL2, hch, htr, hpos, -List.all_eq_true, -encN]
   exact fun _ _ => rfl
 by_cases c2 : n.State = 5
 case neg =>
   simp [c1, c2, hdl, hdt, hL2, hch, htr, hpos, -List.all_eq_true, -encN]
   exact fun _ _ => rfl
 by_cases c3 : W.length = 0
 case neg =>
   simp [c1, c2, c3, hnil, hdl, hdt, hL2, hch, htr, hpos, -List.all_eq_true, -encN]
   exact fun _ _ => rfl
 by_cases c4 : n.Una = []
 · simp [c1, c2, c3, c4, h0, hnil, hdl, hdt, hL2, hch, htr, hpos, -List.all_eq_true, -encN]
   rw [hnil.2 c3]; rfl
 · simp [c1, c2, c3, c4, h0, hnil, hdl, hdt, hL2, hch, htr, hpos, -List.all_eq_true, -encN]
   rw [hnil.2 c3]; rfl
set_option maxHeartbeats 2000000 in
set_option maxRecDepth 10000 in
theorem x43z (n : Nbr) (ok : okN n) (hz : n.Req = []) : CFun Try.prog 43 [encN n] [] (.agg (cellsNx n (.sl 7 [] .full))) [] := by
 refine CFun.intro (tr := []) (fz := []) (n := 20) (rs := [.cell 2 26]) Try.func43 rfl (by kernel_rfl) rfl rfl mixed (by kernel_rfl) (by simp) (by simp) ?_
 have hl1 := ok.lst
 have hl2 := ok.sent
 have hl4 := ok.una
 have k1 := fun H => (ch_row n.Lst (by omega)).up' H rfl rfl
 have k2 := fun H => (ch_row n.Sent (by omega)).up' H rfl rfl
 have k3 := fun H => ch_cl0.up' H rfl rfl
 have k4 := fun H => (ch_row n.Una (by omega)).up' H rfl rfl
 simp [hz]
 refine ⟨_, _, .inl (k1 _), by simp, ?_⟩
 simp
 refine ⟨_, _, .inl (k2 _), by simp, ?_⟩
 simp
 refine ⟨_, _, .inl (k3 _), by simp, ?_⟩
 simp
 refine ⟨_, _, .inl (k4 _), by simp, ?_⟩
 simp
set_option maxHeartbeats 8000000 in
set_option maxRecDepth 10000 in
theorem x28z (n : Nbr) (ok : okN n) (hz : n.Req = []) (h : Hdr) : CFun Try.prog 28 [encN n, encH h] [] (encN (gotN n h)) [] := by
 refine CFun.intro (tr := [4000003000002]) (fz := []) (n := 39) (rs := [.cell 4 26]) Try.func28 rfl (by kernel_rfl) rfl rfl mixed (by kernel_rfl) (by simp) (by simp) ?_
 have h43 := (x43z n ok hz).up' [cellsN n, cellsH h, zN] rfl rfl
 have h63 := (dh_del0 64 [] [.iptr (cellsH h) 0] rfl rfl (answH h) (fun x => x64 h x)).up' [cellsNx n (.sl 7 [] .full), [], zN] rfl rfl
 have hg : gotN n h = n := by unfold gotN; rw [hz]; rfl
 rw [hg]
 simp
 refine ⟨_, _, .inl (by simpa [zN] using h43), by simp, ?_⟩
 simp
 refine ⟨_, _, .inl (by simpa [zN] using h63), by simp, ?_⟩
 simp [hz]
end Go.Proofs.Ytfngaildaoahpaa
