/- The exchange of databases: a request that is answered. -/
import Derived.Test.YtfngaildaoahpaaXC5
import Derived.Test.YtfngaildaoahpaaAmAA
set_option linter.unusedSimpArgs false
set_option linter.unusedVariables false
namespace Go.Proofs.Ytfngaildaoahpaa
open Go Go.Am

theorem ordH_asc : ∀ {l : List Hdr}, ordH l = true → ascH l
  | [], _ => List.Pairwise.nil
  | [x], _ => by simp [ascH]
  | x :: y :: l, h => by
    simp only [ordH] at h
    split at h
    · cases h
    rename_i hc
    have hxy : ltY (keyH x) (keyH y) := by unfold ltY; omega
    have ih := ordH_asc h
    refine List.Pairwise.cons (fun z hz => ?_) ih
    rcases List.mem_cons.1 hz with rfl | hz
    · exact hxy
    · exact ltY_trans hxy (List.rel_of_pairwise_cons ih hz)
/-- The requests that an instance does not answer. -/
def wonH (h : Hdr) (l : List Hdr) : List Hdr := l.filter fun r => !(decide (keyH r = keyH h) && decide (0 ≤ cmpH h r))
theorem wonH_none {h : Hdr} {l : List Hdr} (hk : ∀ x ∈ l, keyH x ≠ keyH h) : wonH h l = l := by
  unfold wonH
  rw [List.filter_eq_self]
  intro x hx
  simp [hk x hx]
theorem wonH_at {h : Hdr} : ∀ {l : List Hdr} {i : Nat} {x : Hdr}, ascH l → l[i]? = some x → keyH x = keyH h → wonH h l = if cmpH h x < 0 then l else l.eraseIdx i
  | [], i, x, _, hx, _ => by simp at hx
  | y :: l, 0, x, ha, hx, hk => by
    simp only [List.getElem?_cons_zero, Option.some.injEq] at hx
    subst hx
    have hr : wonH h l = l := wonH_none fun z hz => by
      have := ltY_ne (List.rel_of_pairwise_cons ha hz)
      rw [hk] at this
      exact fun e => this e.symm
    unfold wonH at hr ⊢
    by_cases hc : cmpH h y < 0
    · rw [if_pos hc, List.filter_cons_of_pos (by simp [hk]; omega), hr]
    · rw [if_neg hc, List.filter_cons_of_neg (by simp [hk]; omega), hr]
      rfl
  | y :: l, i + 1, x, ha, hx, hk => by
    simp only [List.getElem?_cons_succ] at hx
    have ih := wonH_at (h := h) (List.Pairwise.of_cons ha) hx hk
    have hy : keyH y ≠ keyH h := by
      have := ltY_ne (List.rel_of_pairwise_cons ha (List.mem_of_getElem? hx))
      rwa [hk] at this
    unfold wonH at ih ⊢
    rw [List.filter_cons_of_pos (by simp [hy]), ih]
    by_cases hc : cmpH h x < 0
    · rw [if_pos hc, if_pos hc]
    · rw [if_neg hc, if_neg hc, List.eraseIdx_cons_succ]
/-- A neighbor with these requests, some of its own having been answered. -/
def lessN (n : Nbr) (l : List Hdr) : Nbr :=
  if n.State = 5 ∧ l = [] then { n with Req := l, State := 6, Rsd := if n.Una = [] then 0 else n.Rsd } else { n with Req := l }
def gotN (n : Nbr) (h : Hdr) : Nbr := if (wonH h n.Req).length < n.Req.length then lessN n (wonH h n.Req) else n
def gotR (n : Nbr) (h : Hdr) : Nbr := match n.Req[(idxL (hasKH (keyH h)) n.Req 0).toNat]? with
  | some x => if idxL (hasKH (keyH h)) n.Req 0 < 0 ∨ cmpH h x < 0 then n else lessN n (n.Req.eraseIdx (idxL (hasKH (keyH h)) n.Req 0).toNat)
  | none => n
theorem gotN_R {n : Nbr} {h : Hdr} (ha : ascH n.Req) : gotN n h = gotR n h := by
  unfold gotN gotR
  rcases idxL_find (hasKH (keyH h)) n.Req 0 with ⟨h1, h2, _⟩ | ⟨i, x, h1, h2, h3⟩
  · have hn : wonH h n.Req = n.Req := wonH_none (findH_none.1 h2)
    rw [hn, if_neg (by omega), h1]
    split
    · rw [if_pos (.inl (by decide))]
    · rfl
  · have e : idxL (hasKH (keyH h)) n.Req 0 = ((i : Nat) : Int) := by simpa using h1
    have hf : n.Req.find? (hasKH (keyH h)) = some x := by first | exact h3 | exact h3.1
    have hk := ((findH_mem ha).1 hf).2
    have hw := wonH_at (h := h) ha h2 hk
    have hi : i < n.Req.length := (List.getElem?_eq_some_iff.1 h2).1
    rw [e]
    simp only [Int.toNat_natCast, h2]
    by_cases hc : cmpH h x < 0
    · rw [hw, if_pos hc, if_neg (by omega), if_pos (.inr hc)]
    · rw [hw, if_neg hc, List.length_eraseIdx, if_pos hi, if_pos (by omega), if_neg (by rintro (q | q) <;> omega)]
end Go.Proofs.Ytfngaildaoahpaa

/- The exchange of databases: an instance that answers a request, by the reference. -/
namespace Go.Proofs.Ytfngaildaoahpaa
open Go Go.Am

theorem lessR_N (n : Nbr) (i : Nat) : lessR n i = lessN n (n.Req.eraseIdx i) := rfl
theorem gotR_none {n : Nbr} {h : Hdr} (h1 : idxL (hasKH (keyH h)) n.Req 0 = -1) : gotR n h = n := by
  unfold gotR
  rw [h1]
  split
  · rw [if_pos (.inl (by decide))]
  · rfl
theorem gotR_at {n : Nbr} {h : Hdr} {i : Nat} {x : Hdr} (h1 : idxL (hasKH (keyH h)) n.Req 0 = ((i : Nat) : Int)) (h2 : n.Req[i]? = some x) : gotR n h = if cmpH h x < 0 then n else lessN n (n.Req.eraseIdx i) := by
  unfold gotR
  rw [h1]
  simp only [Int.toNat_natCast, h2]
  by_cases hc : cmpH h x < 0
  · rw [if_pos (.inr hc), if_pos hc]
  · rw [if_neg (by omega), if_neg hc]
-- routingref28.Got
set_option maxHeartbeats 4000000 in
set_option maxRecDepth 10000 in
theorem x29 (n : Nbr) (ok : okN n) (h : Hdr) (hh : okH h) : CFun Try.prog 29 [encN n, encH h] [] (encN (gotR n h)) [] := by
  refine CFun.intro (tr := []) (fz := []) (n := 27) (rs := [.cell 4 26]) Try.func29 rfl (by kernel_rfl) rfl rfl mixed (by kernel_rfl) (by simp) (by simp) ?_
  have hl := ok.req
  have k1 := fun H => (c26 h).up' H rfl rfl
  have k2 := fun H => (x20 n.Req _ rfl (by omega) (keyH h)).up' H rfl rfl
  rcases idxL_find (hasKH (keyH h)) n.Req 0 with ⟨h1, h2, _⟩ | ⟨i, x, h1, h2, h3⟩
  · rw [gotR_none h1]
    rw [h1] at k2
    generalize keyH h = kx at *
    simp
    refine ⟨_, _, .inl (by simpa using k1 _), by simp, ?_⟩
    simp
    refine ⟨_, _, .inl (by simpa using k2 _), by simp, ?_⟩
    simp
  · have e : idxL (hasKH (keyH h)) n.Req 0 = ((i : Nat) : Int) := by simpa using h1
    rw [gotR_at e h2]
    rw [e] at k2
    have hi : i < n.Req.length := (List.getElem?_eq_some_iff.1 h2).1
    have k3 := fun H => (c17 h x hh.2.2.2.2.2.1 (ok.hreq x (List.mem_of_getElem? h2)).2.2.2.2.2.1).up' H rfl rfl
    have k4 := fun H => (x67 n i hl).up' H rfl rfl
    rw [lessR_N] at k4
    have hneg : ¬ ((i : Int) < 0) := by omega
    generalize keyH h = kx at *
    generalize cmpH h x = c at *
    generalize lessN n (n.Req.eraseIdx i) = m at *
    clear h3 h1
    simp
    refine ⟨_, _, .inl (by simpa using k1 _), by simp, ?_⟩
    simp
    refine ⟨_, _, .inl (by simpa using k2 _), by simp, ?_⟩
    simp [hneg, h2, gE h2]
    refine ⟨_, _, .inl (by simpa using k3 _), by simp, ?_⟩
    by_cases hc : c < 0
    · simp [hc]
    · simp [hc]
      refine ⟨_, _, .inl (by simpa using k4 _), by simp, ?_⟩
      simp
end Go.Proofs.Ytfngaildaoahpaa

/- A contract among variables of which less is known. -/
namespace Go.Am
open Go
theorem CFun.less {P : Program} {f : FuncId} {args : List AVal} {H0 H : List (List AVal)} {x : AVal} {H' : List (List AVal)} (h : CFun P f args H0 x H') (hl : H0.length = H.length) (hb : LeBoxes H0.length H H0) : CFun P f args H x H' := by
  refine ⟨h.1, fun G w cargs hs h1 h2 hz hr => ?_⟩
  have hs0 : SR G H0 w := hs.weaken (s := ⟨fun _ => .undef, H⟩) (s' := ⟨fun _ => .undef, H0⟩) (LeBoxes_st hb)
  have := h.2 G w cargs hs0 h1 h2 hz (by rw [hl]; exact hr)
  refine this.mono ?_
  rintro e w' ⟨v, G', rfl, g1, g2, g3, g4, g5, g6⟩
  rw [hl] at g1 g6
  exact ⟨v, G', rfl, g1, g2, g3, g4, g5, g6⟩
/-- A row of which the rest is not known. -/
theorem LeCells_more {n : Nat} (rest : List AVal) : ∀ {cs ds : List AVal}, LeCells n cs ds → LeCells n (cs ++ rest) ds
  | _, [], _ => by simp [LeCells]
  | [], d :: ds, h => by simp [LeCells] at h
  | c :: cs, d :: ds, h => by
    simp only [LeCells, List.cons_append] at h ⊢
    exact ⟨h.1, h.2.1, LeCells_more rest h.2.2⟩
end Go.Am

/- The exchange of databases: an instance that answers a request, by the program. -/
namespace Go.Proofs.Ytfngaildaoahpaa
open Go Go.Am

/-- Whether an instance answers a request. -/
def answH (h x : Hdr) : Bool := decide (keyH x = keyH h) && decide (0 ≤ cmpH h x)
-- exchange.Got$1
set_option maxHeartbeats 2000000 in
set_option maxRecDepth 10000 in
theorem x64 (h x : Hdr) : CFun Try.prog 64 [encH x, .iptr (cellsH h) 0] [] (.bool (answH h x)) [] := by
  refine CFun.intro (tr := []) (fz := []) (n := 15) (rs := [.tmp 3]) Try.func64 rfl (by kernel_rfl) rfl rfl mixed (by kernel_rfl) (by simp) (by simp) ?_
  have k1 := fun H => (c25 x).up' H rfl rfl
  have k2 := fun H => (c25 h).up' H rfl rfl
  have k3 := fun H => (c16 h x).up' H rfl rfl
  have hk := keyY_iff (keyH x) (keyH h)
  unfold answH
  generalize keyH x = kx at *
  generalize keyH h = kh at *
  generalize cmpH h x = c at *
  simp
  refine ⟨_, _, .inl (by simpa using k1 _), by simp, ?_⟩
  simp
  refine ⟨_, _, .inl (by simpa using k2 _), by simp, ?_⟩
  by_cases e : kx = kh
  · subst e
    simp
    refine ⟨_, _, .inl (by simpa using k3 _), by simp, ?_⟩
    simp
  · rw [decide_eq_false e] at hk
    simp only [Bool.and_eq_false_iff, beq_eq_false_iff_ne] at hk
    have hk2 : ¬ (kx.Ty = kh.Ty ∧ kx.ID = kh.ID ∧ kx.Len = kh.Len ∧ kx.Router = kh.Router) := by
      rintro ⟨r1, r2, r3, r4⟩
      cases kx; cases kh; simp_all
    simp [hk2, e]
/-- slices.DeleteFunc on a row whose room is not known. -/
theorem dh_delN (l : List Hdr) (n : Nat) (hn : l.length = n) (h0 : 0 < n) (hlen : n < 8796093022208) (p : Hdr → Bool) (f : FuncId) (fs cs : List AVal) (hfs : fs.all noid0 = true) (hcs : cs.all noid0 = true)
    (hp : ∀ x, CFun Try.prog f (fs ++ [.agg (ceH x)] ++ cs) [] (.bool (p x)) []) : CFun Try.prog 63 [.osl 0 0 n none 7, .fn f fs cs] [rowC ceH l] (.osl 0 0 (l.filter fun x => !p x).length none 7) [delRow ceH 7 p l] := by
  have hfl := (eHh).rowLen l
  rw [hn] at hfl
  have hne : rowC ceH l ≠ [] := by
    intro e
    rw [e] at hfl
    simp at hfl
    omega
  refine CFun.reveal (id := 0) (off := 0) (len := n) (k := 7) (cs := rowC ceH l) 0 rfl rfl hne (fun C hC => ?_) (fun C hC h0 => by omega)
  exact CFun.forget (c := some C) (CFun.less (dh_del l n C hn hC hlen p f fs cs hfs hcs hp) rfl ⟨LeCells_more _ (eHh.rowLe _ l), trivial⟩)
-- exchange.clone, the requests a row of its own
set_option maxHeartbeats 2000000 in
set_option maxRecDepth 10000 in
theorem x43r (n : Nbr) (ok : okN n) (hne : n.Req ≠ []) : CFun Try.prog 43 [encN n] [] (.mix (cellsNx n (.osl 2 0 n.Req.length none 7))) [[], [], rowC ceH n.Req] := by
  refine CFun.intro (tr := []) (fz := []) (n := 20) (rs := [.cell 2 26]) Try.func43 rfl (by kernel_rfl) rfl rfl mixed (by kernel_rfl) (by simp) (by simp) ?_
  have hl1 := ok.lst
  have hl2 := ok.sent
  have hl3 := ok.req
  have hl4 := ok.una
  have k1 := fun H => (ch_row n.Lst (by omega)).up' H rfl rfl
  have k2 := fun H => (ch_row n.Sent (by omega)).up' H rfl rfl
  have k3 : ∀ H, CFun Try.prog 70 [.sl 7 (n.Req.map encH) .sh] H (.osl H.length 0 n.Req.length none 7) (H ++ [rowC ceH n.Req]) := fun H => (ch_clr n.Req hne (by omega)).upNew H (eHh.rowNoid n.Req) rfl rfl
  have k4 := fun H => (ch_row n.Una (by omega)).up' H rfl rfl
  have hle := fun k => eHh.rowLe k n.Req
  simp
  refine ⟨_, _, .inl (k1 _), by simp, ?_⟩
  simp
  refine ⟨_, _, .inl (k2 _), by simp, ?_⟩
  simp
  refine ⟨_, _, .inl (k3 _), by simp, ?_⟩
  simp
  refine ⟨_, _, .inl (k4 _), by simp, ?_⟩
  simp [hle]
end Go.Proofs.Ytfngaildaoahpaa

/- The exchange of databases: Got. -/
namespace Go.Proofs.Ytfngaildaoahpaa
open Go Go.Am

def zN : List AVal := [.int .u32 0, .int .u32 0, .int .i64 0, .int .u32 0, .int .u32 0, .int .i64 0, .int .i64 0, .bool false, .int .i64 0, .sl 0 [] .full, .sl 0 [] .full, .bool false, .sl 0 [] .full, .sl 0 [] .full, .int .i64 0]
theorem gotN_eq (n : Nbr) (h : Hdr) : gotN n h = if (wonH h n.Req).length < n.Req.length ∧ n.State = 5 ∧ wonH h n.Req = [] then { n with Req := wonH h n.Req, State := 6, Rsd := if n.Una = [] then 0 else n.Rsd } else { n with Req := wonH h n.Req } := by
  unfold gotN lessN
  by_cases hc : (wonH h n.Req).length < n.Req.length
  · rw [if_pos hc]
    by_cases hd : n.State = 5 ∧ wonH h n.Req = []
    · rw [if_pos hd, if_pos (show _ ∧ n.State = 5 ∧ _ from ⟨hc, hd⟩)]
    · rw [if_neg hd, if_neg (show ¬ (_ ∧ n.State = 5 ∧ _) from fun q => hd q.2)]
  · rw [if_neg hc, if_neg (show ¬ (_ ∧ n.State = 5 ∧ _) from fun q => hc q.1)]
    have e : wonH h n.Req = n.Req := by
      have h1 : (wonH h n.Req).length = n.Req.length := Nat.le_antisymm (List.length_filter_le _ _) (by omega)
      exact List.Sublist.eq_of_length List.filter_sublist h1
    rw [e]
-- exchange.Got, of a neighbor with requests
set_option maxHeartbeats 8000000 in
set_option maxRecDepth 10000 in
theorem x28 (n : Nbr) (ok : okN n) (hne : n.Req ≠ []) (h : Hdr) : CFun Try.prog 28 [encN n, encH h] [] (encN (gotN n h)) [] := by
  refine CFun.intro (tr := [4000003000002]) (fz := [(502012, 5, true)]) (n := 39) (rs := [.cell 4 26]) Try.func28 rfl (by kernel_rfl) rfl rfl mixed (by kernel_rfl) (by simp) (by simp) ?_
  have hl := ok.req
  have h0 : 0 < n.Req.length := List.length_pos_iff.2 hne
  have h43 := (x43r n ok hne).upAll [cellsN n, cellsH h, zN] (by simp [eHh.rowNoid, -List.all_eq_true]) rfl rfl
  have h63 := (dh_delN n.Req _ rfl h0 (by omega) (answH h) 64 [] [.iptr (cellsH h) 0] rfl rfl (fun x => x64 h x)).at (H := [cellsNx n (.osl 5 0 n.Req.length none 7), [], zN, [], [], rowC ceH n.Req]) (id := 5) rfl (eHh.rowNoid n.Req) (eHh.roomNoid _ _) (by simp [low, low0]) rfl
  have hfl := List.length_filter_le (fun x => !answH h x) n.Req
  have hdl : (delRow ceH 7 (answH h) n.Req).length = n.Req.length * 7 := by
    simp only [delRow, List.length_append, eHh.rowLen, List.length_replicate]
    omega
  have hdt : (delRow ceH 7 (answH h) n.Req).take ((n.Req.filter fun x => !answH h x).length * 7) = rowC ceH (n.Req.filter fun x => !answH h x) := by
    rw [delRow, List.take_append_of_le_length (by rw [eHh.rowLen]; omega), List.take_of_length_le (by rw [eHh.rowLen]; omega)]
  have hW : (n.Req.filter fun x => !answH h x) = wonH h n.Req := rfl
  have hg := gotN_eq n h
  rw [hW] at hfl hdt h63
  have hnil : wonH h n.Req = [] ↔ (wonH h n.Req).length = 0 := List.length_eq_zero_iff.symm
  generalize wonH h n.Req = W at *
  generalize delRow ceH 7 (answH h) n.Req = D at *
  rw [hg]
  have hch := eHh.chunk W _ rfl
  have htr := eHh.rowTree W
  have hL2 := eHh.rowLen W
  obtain ⟨len, hlen⟩ : ∃ len, n.Req.length = len := ⟨_, rfl⟩
  rw [hlen] at h0 hdl hfl h43 h63 ⊢
  have hpos : 0 < len * 7 := by omega
  simp
  refine ⟨_, _, .inl (by simpa [ren, ren0, ren00, grow, zN] using h43), by simp, ?_⟩
  simp
  refine ⟨_, _, .inl (by simpa [ren, ren0, zN] using h63), by simp, ?_⟩
  by_cases c1 : W.length < len
  case neg =>
    have c1' : ¬ (W.length : Int) < len := by omega
    simp [c1, hdl, hdt, hL2, hch, htr, hpos, -List.all_eq_true, -encN]
    exact fun _ _ => rfl
  by_cases c2 : n.State = 5
  case neg =>
    simp [c1, c2, hdl, hdt, hL2, hch, htr, hpos, -List.all_eq_true, -encN]
    exact fun _ _ => rfl
  by_cases c3 : W.length = 0
  case neg =>
    simp [c1, c2, c3, hnil, hdl, hdt, hL2, hch, htr, hpos, -List.all_eq_true, -encN]
    exact fun _ _ => rfl
  by_cases c4 : n.Una = []
  · simp [c1, c2, c3, c4, h0, hnil, hdl, hdt, hL2, hch, htr, hpos, -List.all_eq_true, -encN]
    rw [hnil.2 c3]; rfl
  · simp [c1, c2, c3, c4, h0, hnil, hdl, hdt, hL2, hch, htr, hpos, -List.all_eq_true, -encN]
    rw [hnil.2 c3]; rfl
-- exchange.clone, exchange.Got of a neighbor without requests
set_option maxHeartbeats 2000000 in
set_option maxRecDepth 10000 in
theorem x43z (n : Nbr) (ok : okN n) (hz : n.Req = []) : CFun Try.prog 43 [encN n] [] (.agg (cellsNx n (.sl 7 [] .full))) [] := by
  refine CFun.intro (tr := []) (fz := []) (n := 20) (rs := [.cell 2 26]) Try.func43 rfl (by kernel_rfl) rfl rfl mixed (by kernel_rfl) (by simp) (by simp) ?_
  have hl1 := ok.lst
  have hl2 := ok.sent
  have hl4 := ok.una
  have k1 := fun H => (ch_row n.Lst (by omega)).up' H rfl rfl
  have k2 := fun H => (ch_row n.Sent (by omega)).up' H rfl rfl
  have k3 := fun H => ch_cl0.up' H rfl rfl
  have k4 := fun H => (ch_row n.Una (by omega)).up' H rfl rfl
  simp [hz]
  refine ⟨_, _, .inl (k1 _), by simp, ?_⟩
  simp
  refine ⟨_, _, .inl (k2 _), by simp, ?_⟩
  simp
  refine ⟨_, _, .inl (k3 _), by simp, ?_⟩
  simp
  refine ⟨_, _, .inl (k4 _), by simp, ?_⟩
  simp
set_option maxHeartbeats 8000000 in
set_option maxRecDepth 10000 in
theorem x28z (n : Nbr) (ok : okN n) (hz : n.Req = []) (h : Hdr) : CFun Try.prog 28 [encN n, encH h] [] (encN (gotN n h)) [] := by
  refine CFun.intro (tr := [4000003000002]) (fz := []) (n := 39) (rs := [.cell 4 26]) Try.func28 rfl (by kernel_rfl) rfl rfl mixed (by kernel_rfl) (by simp) (by simp) ?_
  have h43 := (x43z n ok hz).up' [cellsN n, cellsH h, zN] rfl rfl
  have h63 := (dh_del0 64 [] [.iptr (cellsH h) 0] rfl rfl (answH h) (fun x => x64 h x)).up' [cellsNx n (.sl 7 [] .full), [], zN] rfl rfl
  have hg : gotN n h = n := by unfold gotN; rw [hz]; rfl
  rw [hg]
  simp
  refine ⟨_, _, .inl (by simpa [zN] using h43), by simp, ?_⟩
  simp
  refine ⟨_, _, .inl (by simpa [zN] using h63), by simp, ?_⟩
  simp [hz]
end Go.Proofs.Ytfngaildaoahpaa

/- The exchange of databases: requests. -/
namespace Go.Proofs.Ytfngaildaoahpaa
open Go Go.Am

/-- The cells of a request. -/
@[simp] def cellsQ (self : Int) (ks : List LKey) : List AVal := [.int .i64 3, .int .u32 self, .int .u32 0, .int .u32 0, .int .i64 0, .int .i64 0, .int .i64 0, .int .i64 0, .int .u32 0, .int .u32 0, .sl 0 [] .full, .int .i64 0, .bool false, .bool false, .bool false, .sl 0 [] .full, .sl 4 (ks.map encY) .own, .sl 0 [] .full]
-- exchange.request
set_option maxHeartbeats 4000000 in
set_option maxRecDepth 10000 in
theorem x60 (n : Nbr) (hl : n.Req.length * 56 ≤ 140737488351232) (self : Int) : CFun Try.prog 60 [encN n, .int .u32 self] [] (encPk (reqN n self)) [] := by
  refine CFun.intro (tr := [23, 3000023]) (fz := []) (n := 31) (rs := [.cell 4 34]) Try.func60 rfl (by kernel_rfl) rfl rfl mixed (by kernel_rfl) (by simp) (by simp) ?_
  obtain ⟨m, hm⟩ : ∃ m, n.Req.length = m := ⟨_, rfl⟩
  obtain ⟨k, hk⟩ : ∃ k, min 16 m = k := ⟨_, rfl⟩
  have hk16 : k ≤ 16 := by omega
  have hmk : (if 16 < (m : Int) then (16 : Int) else m) = k := by split <;> omega
  have hkm : (k : Int) ≤ m := by omega
  have ht : n.Req.take 16 = n.Req.take k := by
    by_cases q : 16 ≤ m
    · rw [show k = 16 by omega]
    · rw [List.take_of_length_le (by omega), List.take_of_length_le (by omega)]
  unfold reqN
  rw [ht]
  have hrk : (n.Req.take k).length = k := by simp; omega
  have hmap : (n.Req.map encH).take k = (n.Req.take k).map encH := by simp [List.map_take]
  simp [hm, hmk, hkm]
  simp only [← List.map_take]
  generalize hr : n.Req.take k = r at *
  have hmin : min k m = k := by omega
  refine LoopK.intro (tr := [23, 3000023]) mixed (by kernel_rfl) (fun q : Nat × List LKey => [(2, .ptr 0 0), (4, .ptr 1 0), (5, .ptr 2 0), (16, .sl 7 (r.map encH) .sh), (17, .int .i64 k), (18, .int .i64 q.1)]) (fun q => [cellsN n, cellsPk pkt0, cellsQ self q.2]) (fun q => q.1 ≤ k ∧ q.2.length = q.1 ∧ q.2 = (r.take q.1).map keyH) (fun q => k - q.1) (0, []) ?_ ?_ ?_
  · simp
  · simp [pkt0, hel0, hmin]
  · rintro ⟨i, ks⟩ ⟨h1, h2, h3⟩
    simp only at h1 h2 h3
    by_cases hi : i < k
    · obtain ⟨x, hx, hd⟩ := get_drop (l := r) (i := i) (by omega)
      have w1 : IntKind.i64.wrap ((i : Int) + 1) = i + 1 := wrap_in (by omega)
      have h := fun H => (c25 x).up' H rfl rfl
      have htk : ks ++ [keyH x] = (r.take (i + 1)).map keyH := by rw [List.take_add_one, hx, h3]; simp
      clear hd h3
      have s1 : i + 1 ≤ 140737488355328 := by omega
      have s2 : (i + 1) * 32 ≤ 140737488355328 := by omega
      generalize keyH x = kx at *
      simp [hi, hx, gE hx]
      refine ⟨_, _, .inl (by simpa using h _), by simp, ?_⟩
      simp [h2, s1, s2, w1]
      refine ⟨i + 1, ks ++ [kx], ⟨by omega, by simp; omega, by simpa [List.map_take] using htk⟩, by omega, by simp⟩
    · have : i = k := by omega
      subst this
      have e : ks = r.map keyH := by rw [h3, List.take_of_length_le (by omega)]
      subst e
      simp [pkt0, hel0]
-- routingref28.Request
set_option maxHeartbeats 4000000 in
set_option maxRecDepth 10000 in
theorem x62 (n : Nbr) (hl : n.Req.length * 56 ≤ 140737488351232) (self : Int) : CFun Try.prog 62 [encN n, .int .u32 self] [] (encPk (reqN n self)) [] := by
  refine CFun.intro (tr := [21, 3000021]) (fz := []) (n := 32) (rs := [.cell 4 34]) Try.func62 rfl (by kernel_rfl) rfl rfl mixed (by kernel_rfl) (by simp) (by simp) ?_
  obtain ⟨m, hm⟩ : ∃ m, n.Req.length = m := ⟨_, rfl⟩
  unfold reqN
  simp [hm]
  refine LoopK.intro (tr := [21, 3000021]) mixed (by kernel_rfl) (fun q : Nat × List LKey => [(2, .ptr 0 0), (4, .ptr 1 0), (5, .ptr 2 0), (6, .int .i64 q.1)]) (fun q => [cellsN n, cellsPk pkt0, cellsQ self q.2]) (fun q => q.1 ≤ min 16 m ∧ q.2.length = q.1 ∧ q.2 = (n.Req.take q.1).map keyH) (fun q => 16 - q.1) (0, []) ?_ ?_ ?_
  · simp
  · simp [pkt0, hel0]
  · rintro ⟨i, ks⟩ ⟨h1, h2, h3⟩
    simp only at h1 h2 h3
    by_cases hi : i < m
    case neg =>
      have : i = m := by omega
      subst this
      have e : ks = (n.Req.take 16).map keyH := by rw [h3, List.take_of_length_le (by omega), List.take_of_length_le (by omega)]
      subst e
      simp [hm, pkt0, hel0]
    by_cases hj : i < 16
    case neg =>
      have : i = 16 := by omega
      subst this
      subst h3
      simp [hm, hi, pkt0, hel0]
    obtain ⟨x, hx, hd⟩ := get_drop (l := n.Req) (i := i) (by omega)
    have w1 : IntKind.i64.wrap ((i : Int) + 1) = i + 1 := wrap_in (by omega)
    have h := fun H => (c26 x).up' H rfl rfl
    have htk : ks ++ [keyH x] = (n.Req.take (i + 1)).map keyH := by rw [List.take_add_one, hx, h3]; simp
    have hj' : (i : Int) < 16 := by omega
    clear hd h3
    have s1 : i + 1 ≤ 140737488355328 := by omega
    have s2 : (i + 1) * 32 ≤ 140737488355328 := by omega
    generalize keyH x = kx at *
    simp [hm, hi, hj', hx, gE hx]
    refine ⟨_, _, .inl (by simpa using h _), by simp, ?_⟩
    simp [h2, s1, s2, w1]
    refine ⟨i + 1, ks ++ [kx], ⟨by omega, by simp; omega, by simpa [List.map_take] using htk⟩, by omega, by simp⟩
end Go.Proofs.Ytfngaildaoahpaa
