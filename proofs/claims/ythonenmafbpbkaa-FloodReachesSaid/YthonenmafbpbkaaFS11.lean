/- flood.requested, among variables that are known by their numbers alone. -/
import Derived.Test.YthonenmafbpbkaaFXC5
import Derived.Test.YthonenmafbpbkaaFS3
set_option linter.unusedSimpArgs false
set_option linter.unusedVariables false
namespace Go.Proofs.Ythonenmafbpbkaa
open Go Go.Am
def reqN (n : Nbr) (h : Hdr) : Nbr × Bool :=
 match n.Req[(idxL (hasKH (keyH h)) n.Req 0).toNat]? with
 | none => (n, false)
 | some x => if idxL (hasKH (keyH h)) n.Req 0 < 0 then (n, false) else if cmpH h x < 0 then (n, true) else (lessR n (idxL (hasKH (keyH h)) n.Req 0).toNat, decide (cmpH h x = 0))
theorem reqN_none {n : Nbr} {h : Hdr} (e : idxL (hasKH (keyH h)) n.Req 0 = -1) : reqN n h = (n, false) := by
 unfold reqN
 rw [e]
 split <;> rfl
theorem reqN_some {n : Nbr} {h : Hdr} {i : Nat} {x : Hdr} (e : idxL (hasKH (keyH h)) n.Req 0 = i) (hx : n.Req[i]? = some x) : reqN n h = if cmpH h x < 0 then (n, true) else (lessR n i, decide (cmpH h x = 0)) := by
 unfold reqN
 rw [e]
 simp only [Int.toNat_natCast, hx]
 rw [if_neg (by omega)]
theorem set_sameC {cs : List AVal} {i : Nat} {x : AVal} (h : cs[i]? = some x) : cs.set i x = cs := by
 apply List.ext_getElem?
 intro j
 rw [List.getElem?_set]
 split
 · rename_i e; subst e; rw [if_pos (List.getElem?_eq_some_iff.1 h).1, h]
 · rfl
def setQ (Nc : List AVal) (off a : Nat) (n : Nbr) : List AVal := ((Nc.set (off + 12) (.osl a 0 n.Req.length none 7)).set (off + 5) (.int .i64 n.State)).set (off + 14) (.int .i64 n.Rsd)
set_option maxHeartbeats 8000000 in
set_option maxRecDepth 10000 in
theorem r41 (n : Nbr) (h : Hdr) (a u b off : Nat) (H : List (List AVal)) (Nc : List AVal) (hlen : n.Req.length * 56 ≤ 140737488351232) (hb : H[b]? = some Nc) (hL : off + 15 ≤ Nc.length)
   (hT : (Nc.drop off).take 15 = cellsO n (.osl a 0 n.Req.length none 7) (.osl u 0 n.Una.length none 7)) (hu : H[a]? = some (rowU n.Req)) (hub : a ≠ b) :
   CFun Try.prog 41 [.ptr b off, encH h] H (.bool (reqN n h).2) ((H.set a (rowU (reqN n h).1.Req)).set b (setQ Nc off a (reqN n h).1) ++ [[]]) := by
 have hget : ∀ j, j < 15 → Nc[off + j]? = (cellsO n (.osl a 0 n.Req.length none 7) (.osl u 0 n.Una.length none 7))[j]? := fun j hj => by
   rw [← hT, List.getElem?_take, if_pos hj, List.getElem?_drop]
 have h5 := hget 5 (by omega)
 have h12 := hget 12 (by omega)
 have h13 := hget 13 (by omega)
 have h14 := hget 14 (by omega)
 simp at h5 h12 h13 h14
 have L5 : off + 5 + 1 ≤ Nc.length := by omega
 have L12 : off + 12 + 1 ≤ Nc.length := by omega
 have L14 : off + 14 + 1 ≤ Nc.length := by omega
 have l5 : off + 5 < Nc.length := by omega
 have l12 : off + 12 < Nc.length := by omega
 have l13 : off + 13 < Nc.length := by omega
 have l14 : off + 14 < Nc.length := by omega
 have hbl : b < H.length := (List.getElem?_eq_some_iff.1 hb).1
 have hul : a < H.length := (List.getElem?_eq_some_iff.1 hu).1
 have hself : (H.set a (rowU n.Req)).set b (setQ Nc off a n) ++ [[]] = H ++ [[]] := by
   have e1 : Nc.set (off + 12) (.osl a 0 n.Req.length none 7) = Nc := set_sameC h12
   have e2 : Nc.set (off + 5) (.int .i64 n.State) = Nc := set_sameC h5
   have e3 : Nc.set (off + 14) (.int .i64 n.Rsd) = Nc := set_sameC h14
   rw [setQ, e1, e2, e3, set_same hu, set_same hb]
 refine CFunP.toFun (CFunP.intro (n := 64) (rs := [.tmp 4]) Try.func41 rfl (by kernel_rfl) rfl rfl (by simp) (by simp) ?_)
 refine SWp_seq (fun s => s = ⟨upd (upd (argT [.ptr b off, encH h]) 3 (.ptr H.length 0)) 4 (.bool false), H ++ [cellsH h]⟩) (awp_sound (tr := []) mixed _ _ _ (by kernel_rfl) ?_) (fun _ => .inr trivial) ?_
 · simp
 rintro s rfl
 refine SWp.sim (s' := ⟨upd (upd (upd (argT [.ptr b off, encH h]) 3 (.ptr H.length 0)) 4 (.bool false)) 3 (.iptr (cellsH h) 0), H ++ [[]]⟩) ?_ ?_
 · have := Sim.freezeT (n := 64) (m := H.length) (s := ⟨upd (upd (argT [.ptr b off, encH h]) 3 (.ptr H.length 0)) 4 (.bool false), H ++ [cellsH h]⟩) H.length 3 false false (cs0 := cellsH h) (by simp) (by simp) (by simp)
   simpa [upd, frzV, frz1] using this
 obtain ⟨X, hX⟩ : ∃ X, X = H ++ [([] : List AVal)] := ⟨_, rfl⟩
 have xb : X[b]? = some Nc := by rw [hX, List.getElem?_append_left hbl]; exact hb
 have xu : X[a]? = some (rowU n.Req) := by rw [hX, List.getElem?_append_left hul]; exact hu
 have xbl : b < X.length := by rw [hX]; simp; omega
 have xbi := gE xb
 have xui := gE xu
 have k80 := ih_H n.Req (by omega) (hasKH (keyH h)) 81 [] [.iptr (cellsH h) 0] rfl rfl (fun x => r81 h x) xu
 rw [← hX] at hself ⊢
 refine awp_sound (tr := []) mixed _ _ _ (by kernel_rfl) ?_
 rcases idxL_find (hasKH (keyH h)) n.Req 0 with ⟨e1, _, _⟩ | ⟨i, x, e1, e2, _, _, _⟩
 · rw [e1] at k80
   rw [reqN_none e1]
   simp [xb, h12]
   refine ⟨_, _, .inl (by simpa using k80), by simp, ?_⟩
   simp [retP]
   exact ⟨_, Sim.refl, rfl, hself.symm⟩
 · rw [Nat.zero_add] at e1
   rw [e1] at k80
   rw [reqN_some e1 e2]
   have hil : i < n.Req.length := (List.getElem?_eq_some_iff.1 e2).1
   have hne : n.Req ≠ [] := by rintro e; rw [e] at hil; simp at hil
   have k55 := (c16 h x).up' X rfl rfl
   have hld : aload (some (true, 7)) (rowU n.Req) (i * 7) = some (encH x) := by rw [rowU_of hne]; exact eHh.load0 e2
   generalize cmpH h x = c at *
   simp [xb, h12]
   refine ⟨_, _, .inl (by simpa using k80), by simp, ?_⟩
   have hi0 : ¬ (i : Int) < 0 := by omega
   have hlh : aload (some (true, 7)) (cellsH h) 0 = some (encH h) := rfl
   simp only [cellsH, encH] at hlh hld k55
   have hiI : (i : Int) < n.Req.length := by omega
   simp [xb, h12, hil, xu, -aload, aloadF, hld, hlh, hi0, hiI]
   refine ⟨_, _, .inl (by simpa using k55), by simp, ?_⟩
   simp [xb, h12, hil, xu, -aload, aloadF, hld, hlh, hi0, hiI]
   by_cases c1 : c < 0
   · simp [c1, retP]
     exact ⟨_, Sim.refl, rfl, hself.symm⟩
   have k82 := dl_H n.Req i hlen hil xu
   have w1 : IntKind.i64.wrap ((i : Int) + 1) = i + 1 := wrap_in (by omega)
   have hE : (n.Req.eraseIdx i).length = n.Req.length - 1 := by rw [List.length_eraseIdx_of_lt hil]
   generalize hq : n.Req.eraseIdx i = q at *
   simp [c1, xb, h12, -aload, aloadF, w1]
   refine ⟨_, _, .inl (by simpa using k82), by simp, ?_⟩
   have hfin : ∀ Z Y : List AVal, (X.set a Z).set b Y = (H.set a Z).set b Y ++ [[]] := fun Z Y => by
     rw [hX, List.set_append_left _ _ hul, List.set_append_left _ _ (by simpa using hbl)]
   have s5 : (Nc.set (off + 12) (.osl a 0 (n.Req.length - 1) none 7)).set (off + 5) (.int .i64 n.State) = Nc.set (off + 12) (.osl a 0 (n.Req.length - 1) none 7) := set_sameC (by rw [List.getElem?_set_ne (by omega)]; exact h5)
   have s14 : (Nc.set (off + 12) (.osl a 0 (n.Req.length - 1) none 7)).set (off + 14) (.int .i64 n.Rsd) = Nc.set (off + 12) (.osl a 0 (n.Req.length - 1) none 7) := set_sameC (by rw [List.getElem?_set_ne (by omega)]; exact h14)
   have s14' : ((Nc.set (off + 12) (.osl a 0 (n.Req.length - 1) none 7)).set (off + 5) (.int .i64 6)).set (off + 14) (.int .i64 n.Rsd) = (Nc.set (off + 12) (.osl a 0 (n.Req.length - 1) none 7)).set (off + 5) (.int .i64 6) := set_sameC (by rw [List.getElem?_set_ne (by omega), List.getElem?_set_ne (by omega)]; exact h14)
   have hqn : q = [] ↔ n.Req.length - 1 = 0 := by rw [← hE]; exact List.length_eq_zero_iff.symm
   have hun : n.Una = [] ↔ n.Una.length = 0 := List.length_eq_zero_iff.symm
   have g5 := gE h5
   have g12 := gE h12
   have g13 := gE h13
   have g14 := gE h14
   unfold lessR
   rw [hq]
   by_cases d1 : n.State = 5
   · by_cases d2 : n.Req.length - 1 = 0
     · by_cases d3 : n.Una.length = 0
       · have d2' := hqn.2 d2
         have d3' := hun.2 d3
         simp [xb, xbi, hub, L5, L12, L14, l5, l12, l14, h5, h12, h13, h14, g5, g12, g13, g14, l13, -aload, aloadF, xbl, d1, d2, d3, d2', d3', retP, setQ]
         exact ⟨_, Sim.refl, rfl, hfin _ _⟩
       · have d2' := hqn.2 d2
         have d3' : ¬ n.Una = [] := fun e => d3 (hun.1 e)
         rw [d2] at s14'
         simp [xb, xbi, hub, L5, L12, L14, l5, l12, l14, h5, h12, h13, h14, g5, g12, g13, g14, l13, -aload, aloadF, xbl, d1, d2, d3, d2', d3', retP, setQ, s14']
         exact ⟨_, Sim.refl, rfl, hfin _ _⟩
     · have d2' : ¬ q = [] := fun e => d2 (hqn.1 e)
       rw [d1] at s5
       simp [xb, xbi, hub, L5, L12, L14, l5, l12, l14, h5, h12, h13, h14, g5, g12, g13, g14, l13, -aload, aloadF, xbl, d1, d2, d2', retP, setQ, hE, s5, s14]
       exact ⟨_, Sim.refl, rfl, hfin _ _⟩
   · simp [xb, xbi, hub, L5, L12, L14, l5, l12, l14, h5, h12, h13, h14, g5, g12, g13, g14, l13, -aload, aloadF, xbl, d1, retP, setQ, hE, s5, s14]
     exact ⟨_, Sim.refl, rfl, hfin _ _⟩
end Go.Proofs.Ythonenmafbpbkaa

/- flood.cloneNeighbor, both lists that change as rows of the call's own, among variables that are known by their numbers alone. -/
namespace Go.Proofs.Ythonenmafbpbkaa
open Go Go.Am
theorem resW {P : Program} {f : FuncId} {args : List AVal} {H : List (List AVal)} {x : AVal} {H' : List (List AVal)} (h : CFun P f args H x H') (x' : AVal) (hx : ∀ r F v, Rep H'.length r F x v → Rep H'.length r F x' v) (ho : x'.isOwn = false) : CFun P f args H x' H' := by
 refine ⟨h.1, fun G w cargs h1 h2 h3 h4 h5 => (h.2 G w cargs h1 h2 h3 h4 h5).mono ?_⟩
 rintro e w' ⟨v, G', rfl, g1, g2, g3, g4, g5, g6⟩
 exact ⟨v, G', rfl, g1, g2, hx _ _ _ g3, OwnAt.of_not ho, g5, g6⟩
theorem mixW {n : Nat} {r : Nat → Nat × Nat} {F : Frz} {cs cs' : List AVal} {v : Value} (h : Rep n r F (mixN cs) v) (hl : cs'.length = cs.length) (h1 : ∀ c ∈ cs', c.scalar = true) (hc : ∀ (i : Nat) (x x' : AVal) (u : Value), cs[i]? = some x → cs'[i]? = some x' → Rep n r F x u → Rep n r F x' u) : Rep n r F (.mix cs') v := by
 unfold mixN at h
 split at h
 · cases h with
   | tree _ _ ht =>
     cases ht with
     | agg _ arr hs _ ht =>
       refine .mix cs' arr (by omega) h1 (fun i x' u hx' hu => ?_)
       have hi : i < cs.length := by
         rw [← hl]
         exact (List.getElem?_eq_some_iff.1 hx').1
       exact hc i _ x' u (List.getElem?_eq_getElem hi) hx' (.tree _ _ (ht i _ u (List.getElem?_eq_getElem hi) hu))
 · cases h with
   | tree _ _ ht => cases ht
   | mix _ arr hs _ hr =>
     refine .mix cs' arr (by omega) h1 (fun i x' u hx' hu => ?_)
     have hi : i < cs.length := by
       rw [← hl]
       exact (List.getElem?_eq_some_iff.1 hx').1
     exact hc i _ x' u (List.getElem?_eq_getElem hi) hx' (hr i _ u (List.getElem?_eq_getElem hi) hu)
theorem cl_new (l : List Hdr) (hne : l ≠ []) (hl : l.length * 56 ≤ 140737488351232) (H : List (List AVal)) : CFun Try.prog 59 [.sl 7 (l.map encH) .sh] H (.osl H.length 0 l.length none 7) (H ++ [rowC ceH l]) :=
 (ch_clr l hne (by omega)).upNew H (eHh.rowNoid l) rfl rfl
set_option maxHeartbeats 4000000 in
set_option maxRecDepth 10000 in
theorem r49nn (n : Nbr) (ok : okN n) (h1 : n.Req ≠ []) (h2 : n.Una ≠ []) (H : List (List AVal)) : CFun Try.prog 49 [encN n] H (.mix (cellsO n (.osl (H.length + 2) 0 n.Req.length none 7) (.osl (H.length + 3) 0 n.Una.length none 7)))
   (H ++ [cellsO n (.osl (H.length + 2) 0 n.Req.length none 7) (.osl (H.length + 3) 0 n.Una.length none 7), cellsO n (.osl (H.length + 2) 0 n.Req.length none 7) (.osl (H.length + 3) 0 n.Una.length none 7), rowC ceH n.Req, rowC ceH n.Una]) := by
 refine CFunP.toFun (CFunP.introA (tr := []) (n := 20) (rs := [.cell 2 38]) Try.func49 rfl (by kernel_rfl) rfl rfl mixed (by kernel_rfl) (by simp) (by simp) ?_)
 have hl1 := ok.lst
 have hl2 := ok.sent
 have k1 := fun H => (ch_row n.Lst (by omega)).up' H rfl rfl
 have k2 := fun H => (ch_row n.Sent (by omega)).up' H rfl rfl
 have k3 := cl_new n.Req h1 ok.req
 have k4 := cl_new n.Una h2 ok.una
 simp
 refine ⟨_, _, .inl (k1 _), by simp, ?_⟩
 simp
 refine ⟨_, _, .inl (k2 _), by simp, ?_⟩
 simp
 refine ⟨_, _, .inl (k3 _), by simp [List.take_append], ?_⟩
 simp
 refine ⟨_, _, .inl (k4 _), by simp [List.take_append], ?_⟩
 simp [retP]
 refine ⟨_, Sim.refl, ?_⟩
 simp
set_option maxHeartbeats 4000000 in
set_option maxRecDepth 10000 in
theorem r49en (n : Nbr) (ok : okN n) (h1 : n.Req = []) (h2 : n.Una ≠ []) (H : List (List AVal)) : CFun Try.prog 49 [encN n] H (mixN (cellsO n (.sl 7 [] .full) (.osl (H.length + 2) 0 n.Una.length none 7)))
   (H ++ [cellsO n (.sl 7 [] .full) (.osl (H.length + 2) 0 n.Una.length none 7), cellsO n (.sl 7 [] .full) (.osl (H.length + 2) 0 n.Una.length none 7), rowC ceH n.Una]) := by
 refine CFunP.toFun (CFunP.introA (tr := []) (n := 20) (rs := [.cell 2 38]) Try.func49 rfl (by kernel_rfl) rfl rfl mixed (by kernel_rfl) (by simp) (by simp) ?_)
 have hl1 := ok.lst
 have hl2 := ok.sent
 have k1 := fun H => (ch_row n.Lst (by omega)).up' H rfl rfl
 have k2 := fun H => (ch_row n.Sent (by omega)).up' H rfl rfl
 have k3 := fun H => ch_cl0.up' H rfl rfl
 have k4 := cl_new n.Una h2 ok.una
 simp [h1]
 refine ⟨_, _, .inl (k1 _), by simp, ?_⟩
 simp
 refine ⟨_, _, .inl (k2 _), by simp, ?_⟩
 simp
 refine ⟨_, _, .inl (k3 _), by simp, ?_⟩
 simp
 refine ⟨_, _, .inl (k4 _), by simp [List.take_append], ?_⟩
 simp [retP, mixN]
 refine ⟨_, Sim.refl, ?_⟩
 simp
set_option maxHeartbeats 4000000 in
set_option maxRecDepth 10000 in
theorem r49ne (n : Nbr) (ok : okN n) (h1 : n.Req ≠ []) (h2 : n.Una = []) (H : List (List AVal)) : CFun Try.prog 49 [encN n] H (mixN (cellsO n (.osl (H.length + 2) 0 n.Req.length none 7) (.sl 7 [] .full)))
   (H ++ [cellsO n (.osl (H.length + 2) 0 n.Req.length none 7) (.sl 7 [] .full), cellsO n (.osl (H.length + 2) 0 n.Req.length none 7) (.sl 7 [] .full), rowC ceH n.Req]) := by
 refine CFunP.toFun (CFunP.introA (tr := []) (n := 20) (rs := [.cell 2 38]) Try.func49 rfl (by kernel_rfl) rfl rfl mixed (by kernel_rfl) (by simp) (by simp) ?_)
 have hl1 := ok.lst
 have hl2 := ok.sent
 have k1 := fun H => (ch_row n.Lst (by omega)).up' H rfl rfl
 have k2 := fun H => (ch_row n.Sent (by omega)).up' H rfl rfl
 have k3 := cl_new n.Req h1 ok.req
 have k4 := fun H => ch_cl0.up' H rfl rfl
 simp [h2]
 refine ⟨_, _, .inl (k1 _), by simp, ?_⟩
 simp
 refine ⟨_, _, .inl (k2 _), by simp, ?_⟩
 simp
 refine ⟨_, _, .inl (k3 _), by simp [List.take_append], ?_⟩
 simp
 refine ⟨_, _, .inl (k4 _), by simp [List.take_append], ?_⟩
 simp [retP, mixN]
 refine ⟨_, Sim.refl, ?_⟩
 simp
set_option maxHeartbeats 4000000 in
set_option maxRecDepth 10000 in
theorem r49ee (n : Nbr) (ok : okN n) (h1 : n.Req = []) (h2 : n.Una = []) (H : List (List AVal)) : CFun Try.prog 49 [encN n] H (mixN (cellsO n (.sl 7 [] .full) (.sl 7 [] .full)))
   (H ++ [cellsO n (.sl 7 [] .full) (.sl 7 [] .full), cellsO n (.sl 7 [] .full) (.sl 7 [] .full)]) := by
 refine CFunP.toFun (CFunP.introA (tr := []) (n := 20) (rs := [.cell 2 38]) Try.func49 rfl (by kernel_rfl) rfl rfl mixed (by kernel_rfl) (by simp) (by simp) ?_)
 have hl1 := ok.lst
 have hl2 := ok.sent
 have k1 := fun H => (ch_row n.Lst (by omega)).up' H rfl rfl
 have k2 := fun H => (ch_row n.Sent (by omega)).up' H rfl rfl
 have k3 := fun H => ch_cl0.up' H rfl rfl
 simp [h1, h2]
 refine ⟨_, _, .inl (k1 _), by simp, ?_⟩
 simp
 refine ⟨_, _, .inl (k2 _), by simp, ?_⟩
 simp
 refine ⟨_, _, .inl (k3 _), by simp, ?_⟩
 simp
 refine ⟨_, _, .inl (k3 _), by simp, ?_⟩
 simp [retP, mixN]
 refine ⟨_, Sim.refl, ?_⟩
 simp
theorem r49 (n : Nbr) (ok : okN n) (H : List (List AVal)) : ∃ a u Z, CFun Try.prog 49 [encN n] H (.mix (cellsO n (.osl a 0 n.Req.length none 7) (.osl u 0 n.Una.length none 7))) (H ++ Z) ∧
   ∀ L, Holds H L → Holds (H ++ Z) (L ++ [(a, rowU n.Req), (u, rowU n.Una)]) := by
 have set0 : ∀ (c : List AVal) (Y : List (List AVal)), (H ++ c :: Y).set H.length [.undef] = H ++ [.undef] :: Y := fun c Y => by
   rw [List.set_append_right _ _ (Nat.le_refl _), Nat.sub_self, List.set_cons_zero]
 have set1 : ∀ (c d : List AVal) (Y : List (List AVal)), (H ++ c :: d :: Y).set (H.length + 1) [.undef] = H ++ c :: [.undef] :: Y := fun c d Y => by
   rw [List.set_append_right _ _ (by omega), Nat.add_sub_cancel_left, List.set_cons_succ, List.set_cons_zero]
 have get0 : ∀ (c : List AVal) (Y : List (List AVal)), (H ++ c :: Y)[H.length]? = some c := fun c Y => by simp
 have get1 : ∀ (c d : List AVal) (Y : List (List AVal)), (H ++ c :: d :: Y)[H.length + 1]? = some d := fun c d Y => by
   rw [List.getElem?_append_right (by omega), Nat.add_sub_cancel_left]; rfl
 have hcell : ∀ (N : Nat) (x y x' y' : AVal), x'.scalar = true → y'.scalar = true → (∀ r F v, Rep N r F x v → Rep N r F x' v) → (∀ r F v, Rep N r F y v → Rep N r F y' v) → ∀ r F v, Rep N r F (mixN (cellsO n x y)) v → Rep N r F (.mix (cellsO n x' y')) v := by
   intro N x y x' y' s1 s2 k1 k2 r F v h
   refine mixW h rfl (fun c hc => by
     simp only [cellsO, List.mem_cons, List.not_mem_nil, or_false] at hc
     rcases hc with rfl | rfl | rfl | rfl | rfl | rfl | rfl | rfl | rfl | rfl | rfl | rfl | rfl | rfl | rfl
     all_goals first
       | exact s1
       | exact s2
       | rfl) ?_
   intro i z z' u hz hz' hr
   rcases (by omega : i = 12 ∨ i = 13 ∨ (i ≠ 12 ∧ i ≠ 13)) with rfl | rfl | ⟨e1, e2⟩
   · simp at hz hz'; subst hz hz'; exact k1 _ _ _ hr
   · simp at hz hz'; subst hz hz'; exact k2 _ _ _ hr
   · have : (cellsO n x y)[i]? = (cellsO n x' y')[i]? := by
       rcases i with _ | _ | _ | _ | _ | _ | _ | _ | _ | _ | _ | _ | _ | _ | _ | i
       all_goals first
         | rfl
         | exact absurd rfl e1
         | exact absurd rfl e2
     rw [this, hz'] at hz
     injection hz with hz
     subst hz
     exact hr
 by_cases h1 : n.Req = []
 · have u1 : rowU n.Req = [.undef] := by rw [h1]; rfl
   have l1 : n.Req.length = 0 := by rw [h1]; rfl
   by_cases h2 : n.Una = []
   · have u2 : rowU n.Una = [.undef] := by rw [h2]; rfl
     have l2 : n.Una.length = 0 := by rw [h2]; rfl
     have k := r49ee n ok h1 h2 H
     have k' := (k.postW (by simp) (LeW.und (get0 _ _) (by simp))).postW (by simp) (LeW.und (by rw [set0]; exact get1 _ _ _) (by simp))
     rw [set0, set1] at k'
     refine ⟨H.length + 0, H.length + 1, _, resW k' _ (hcell _ _ _ _ _ rfl rfl (fun r F v h => ?_) (fun r F v h => ?_)) rfl, fun L hL => ?_⟩
     · rw [l1]; exact sl_osl0 (by simp) h
     · rw [l2]; exact sl_osl0 (by simp) h
     · rw [u1, u2]; exact hL.two rfl rfl (by omega)
   · have u2 : rowU n.Una = rowC ceH n.Una := rowU_of h2
     have k := r49en n ok h1 h2 H
     have k' := k.postW (by simp) (LeW.und (get0 _ _) (by simp))
     rw [set0] at k'
     refine ⟨H.length + 0, H.length + 2, _, resW k' _ (hcell _ _ _ _ _ rfl rfl (fun r F v h => ?_) (fun r F v h => h)) rfl, fun L hL => ?_⟩
     · rw [l1]; exact sl_osl0 (by simp) h
     · rw [u1, u2]; exact hL.two rfl rfl (by omega)
 · have u1 : rowU n.Req = rowC ceH n.Req := rowU_of h1
   by_cases h2 : n.Una = []
   · have u2 : rowU n.Una = [.undef] := by rw [h2]; rfl
     have l2 : n.Una.length = 0 := by rw [h2]; rfl
     have k := r49ne n ok h1 h2 H
     have k' := k.postW (by simp) (LeW.und (get0 _ _) (by simp))
     rw [set0] at k'
     refine ⟨H.length + 2, H.length + 0, _, resW k' _ (hcell _ _ _ _ _ rfl rfl (fun r F v h => h) (fun r F v h => ?_)) rfl, fun L hL => ?_⟩
     · rw [l2]; exact sl_osl0 (by simp) h
     · rw [u1, u2]; exact hL.two rfl rfl (by omega)
   · have u2 : rowU n.Una = rowC ceH n.Una := rowU_of h2
     refine ⟨H.length + 2, H.length + 3, _, r49nn n ok h1 h2 H, fun L hL => ?_⟩
     rw [u1, u2]; exact hL.two rfl rfl (by omega)
end Go.Proofs.Ythonenmafbpbkaa

/- What is waited for, by the reference. -/
namespace Go.Proofs.Ythonenmafbpbkaa
open Go Go.Am
set_option maxHeartbeats 8000000 in
set_option maxRecDepth 10000 in
theorem e22 (l : List Ifs) (m : Nat) (hm : l.length = m) (hm2 : m < 8796093022208) (hl : ∀ s ∈ l, s.Nb.length < 8796093022208 ∧ ∀ n ∈ s.Nb, n.Una.length < 8796093022208) (k : LKey) : CFun Try.prog 22 [.sl 15 (l.map encIf) .sh, encY k] [] (.bool (waitL l k)) [] := by
 refine CFun.intro (tr := []) (fz := []) (n := 35) (rs := [.tmp 4]) Try.func22 rfl (by kernel_rfl) rfl rfl mixed (by kernel_rfl) (by simp) (by simp) ?_
 obtain ⟨W, hW⟩ : ∃ W, W = waitL l k := ⟨_, rfl⟩
 rw [← hW]
 simp [hm]
 refine LoopK.intro (tr := []) mixed (by kernel_rfl) (fun i : Nat => [(0, .sl 15 (l.map encIf) .sh), (3, .ptr 0 0), (5, .int .i64 i)]) (fun _ => [cellsY k])
   (fun i => i ≤ m ∧ W = (l.drop i).any fun s => s.Nb.any (waitB k)) (fun i => m - i) 0 ?_ ?_ ?_
 · exact ⟨Nat.zero_le _, by simpa [waitL] using hW⟩
 · simp
 rintro i ⟨i1, i2⟩
 by_cases hi : i < m
 case neg =>
   rw [List.drop_eq_nil_of_le (by omega)] at i2
   subst i2
   simp [hi, hm]
 obtain ⟨s, hs, hd⟩ := get_drop (l := l) (i := i) (by omega)
 rw [hd] at i2
 simp only [List.any_cons] at i2
 obtain ⟨g1, g2⟩ := hl s (List.mem_of_getElem? hs)
 have w1 : IntKind.i64.wrap ((i : Int) + 1) = i + 1 := wrap_in (by omega)
 simp [hi, hm]
 refine LoopK.intro (tr := []) mixed (by kernel_rfl) (fun j : Nat => [(0, .sl 15 (l.map encIf) .sh), (3, .ptr 0 0), (5, .int .i64 i), (6, .int .i64 j)]) (fun _ => [cellsY k])
   (fun j => j ≤ s.Nb.length ∧ s.Nb.any (waitB k) = (s.Nb.drop j).any (waitB k)) (fun j => s.Nb.length - j) 0 ?_ ?_ ?_
 · exact ⟨Nat.zero_le _, rfl⟩
 · simp
 rintro j ⟨j1, j2⟩
 by_cases hj : j < s.Nb.length
 case neg =>
   rw [List.drop_eq_nil_of_le (by omega)] at j2
   simp only [List.any_nil] at j2
   rw [j2, Bool.false_or] at i2
   simp [hi, hm, hs, gE hs, hj]
   exact ⟨i + 1, ⟨hi, i2⟩, by omega, w1⟩
 obtain ⟨n, hn, hnd⟩ := get_drop (l := s.Nb) (i := j) hj
 rw [hnd] at j2
 simp only [List.any_cons] at j2
 have w2 : IntKind.i64.wrap ((j : Int) + 1) = j + 1 := wrap_in (by omega)
 have gN := gE hn
 have k20 := fun H => (x20 n.Una _ rfl (g2 n (List.mem_of_getElem? hn)) k).up' H rfl rfl
 have hwb : waitB k n = decide (0 ≤ idxL (hasKH k) n.Una 0) := idxL_any _ _ 0
 rw [hwb] at j2
 clear hwb
 generalize idxL (hasKH k) n.Una 0 = q at *
 by_cases hb : 0 ≤ q
 · have hWt : W = true := by rw [i2, j2, decide_eq_true hb]; rfl
   clear i2 j2 hW
   subst hWt
   simp [hi, hm, hs, gE hs, hj, hn, gN]
   refine ⟨_, _, .inl (by simpa using k20 _), by simp, ?_⟩
   simp [hb]
 · rw [decide_eq_false hb, Bool.false_or] at j2
   simp [hi, hm, hs, gE hs, hj, hn, gN]
   refine ⟨_, _, .inl (by simpa using k20 _), by simp, ?_⟩
   simp [hb]
   exact ⟨j + 1, ⟨hj, j2⟩, by omega, w2⟩
end Go.Proofs.Ythonenmafbpbkaa

/- What interfaces and keys bring as arguments; the law FloodDue. -/
namespace Go.Proofs.Ythonenmafbpbkaa
open Go Go.Am
structure okIf (s : Ifs) : Prop where
  area : inW s.Area
  dr : inW s.DR
  bdr : inW s.BDR
  kind : inI s.Kind
  nb : s.Nb.length * 168 ≤ 140737488351232
  nbs : ∀ n ∈ s.Nb, okN n
set_option maxHeartbeats 8000000 in
set_option maxRecDepth 10000 in
theorem e5 (n : Nbr) (ok : okN n) (l : List Ifs) (hl : l.length * 120 ≤ 140737488351232) (okl : ∀ s ∈ l, okIf s) (k : LKey) (now : Int) : CFun Try.prog 5 [encN n, .sl 15 (l.map encIf) .sh, encY k, .int .i64 now] [] (.bool true) [] := by
 refine CFun.intro (tr := []) (fz := []) (n := 52) (rs := [.tmp 8]) Try.func5 rfl (by kernel_rfl) rfl rfl mixed (by kernel_rfl) (by simp) (by simp) ?_
 have k10 := fun H => f10.up' H rfl rfl
 by_cases c1 : now < 0
 · simp [c1]
   refine ⟨_, _, .inl (by simpa using k10 _), by simp, ?_⟩
   simp
 by_cases c2 : 1099511627776 < now
 · simp [c1, c2]
   refine ⟨_, _, .inl (by simpa using k10 _), by simp, ?_⟩
   simp
 have hw : inI (now + 5) := by unfold inI; omega
 have k18 := fun H => (e18 n ok now hw).up' H rfl rfl
 have k19 := fun H => (e19 n ok now hw).up' H rfl rfl
 have hlk : ∀ s ∈ l, s.Nb.length < 8796093022208 ∧ ∀ n ∈ s.Nb, n.Una.length < 8796093022208 := fun s hs => ⟨by have := (okl s hs).nb; omega, fun n hn => by have := ((okl s hs).nbs n hn).una; omega⟩
 have k21 := fun H => (e21 l _ rfl (by omega) hlk k).up' H rfl rfl
 have k22 := fun H => (e22 l _ rfl (by omega) hlk k).up' H rfl rfl
 have hd : (dueN n now).1.Lst = n.Lst ∧ (dueN n now).1.Sent = n.Sent ∧ (dueN n now).1.Req = n.Req ∧ (dueN n now).1.Una = n.Una ∧ (dueN n now).2.length ≤ n.Una.length := by
   unfold dueN; split <;> simp
 obtain ⟨d1, d2, d3, d4, d5⟩ := hd
 generalize dueN n now = a at *
 obtain ⟨a, u⟩ := a
 simp only at d1 d2 d3 d4 d5 k18 k19
 have h1 := ok.lst
 have h2 := ok.sent
 have h3 := ok.req
 have h4 := ok.una
 have k15 := fun H => (x12 a (by rw [d1]; omega) (by rw [d2]; omega) (by rw [d3]; omega) (by rw [d4]; omega)).up' H rfl rfl
 have k20 := fun H => (f42 u u _ _ rfl rfl (by omega)).up' H rfl rfl
 generalize waitL l k = w at *
 clear hlk okl d1 d2 d3 d4 d5 h1 h2 h3 h4 hl ok hw
 simp [c1, c2]
 refine ⟨_, _, .inl (by simpa using k18 _), by simp, ?_⟩
 simp
 refine ⟨_, _, .inl (by simpa using k19 _), by simp, ?_⟩
 simp
 refine ⟨_, _, .inl (by simpa using k15 _), by simp, ?_⟩
 simp
 refine ⟨_, _, .inl (by simpa using k20 _), by simp, ?_⟩
 simp
 refine ⟨_, _, .inl (by simpa using k21 _), by simp, ?_⟩
 simp
 refine ⟨_, _, .inl (by simpa using k22 _), by simp, ?_⟩
 simp
 refine ⟨_, _, .inl (by simpa using k10 _), by simp, ?_⟩
 simp
end Go.Proofs.Ythonenmafbpbkaa

/- flood.clone: interfaces, their neighbors and the neighbors' lists as rows of the call's own. -/
namespace Go.Proofs.Ythonenmafbpbkaa
open Go Go.Am
def ceN (n : Nbr) : List AVal := cellsN n
theorem eNb : Enc ceN 15 where
  pos := by omega
  len x := rfl
  dis x := rfl
  tree x := by simp [AVal.tree, ceN]
def ceI (s : Ifs) : List AVal := cellsI s
theorem eIf : Enc ceI 15 where
  pos := by omega
  len x := rfl
  dis x := rfl
  tree x := by simp [AVal.tree, ceI]
set_option maxHeartbeats 4000000 in
set_option maxRecDepth 10000 in
theorem nb_clr (l : List Nbr) (hne : l ≠ []) (s1 : l.length * 168 ≤ 140737488355328) : CFun Try.prog 76 [.sl 15 (l.map fun x => AVal.agg (ceN x)) .sh] [] (.osl 0 0 l.length none 15) [rowC ceN l] := by
 refine CFun.intro (tr := [100007]) (fz := []) (n := 8) (rs := [.tmp 2]) Try.func76 rfl (by kernel_rfl) rfl rfl mixed (by kernel_rfl) (by simp) (by simp) ?_
 have s2 : l.length ≤ 140737488355328 := by omega
 have s3 : 0 < l.length := List.length_pos_iff.2 hne
 have s4 : (l.map fun x => AVal.agg (ceN x)).isEmpty = false := by cases l <;> simp_all
 have s5 := rowC_map (ce := ceN) l
 simp [hne, s1, s2, s3, s4]
 rw [s5, (eNb).rowDis]
 exact (eNb).rowLe 1 l
set_option maxHeartbeats 4000000 in
set_option maxRecDepth 10000 in
theorem nb_cl0 : CFun Try.prog 76 [.sl 15 [] .sh] [] (.sl 15 [] .full) [] := by
 refine CFun.intro (tr := [100007]) (fz := []) (n := 8) (rs := [.tmp 2]) Try.func76 rfl (by kernel_rfl) rfl rfl mixed (by kernel_rfl) (by simp) (by simp) ?_
 simp
theorem nb_cl (l : List Nbr) (s1 : l.length * 168 ≤ 140737488351232) (H : List (List AVal)) : CFun Try.prog 76 [.sl 15 (l.map encN) .sh] H (.osl H.length 0 l.length none 15) (H ++ [rowC ceN l]) := by
 by_cases h : l = []
 · subst h
   exact (nb_cl0.up' H rfl rfl).empty
 · exact (nb_clr l h (by omega)).upNew H (eNb.rowNoid l) rfl rfl
structure NbI where
  n : Nbr
  a : Nat
  u : Nat
def ceNI (x : NbI) : List AVal := cellsO x.n (.osl x.a 0 x.n.Req.length none 7) (.osl x.u 0 x.n.Una.length none 7)
def nbC (N : List NbI) : List AVal := N.flatMap ceNI
def ownN (N : List NbI) : List (Nat × List AVal) := N.flatMap fun x => [(x.a, rowU x.n.Req), (x.u, rowU x.n.Una)]
structure IfI where
  s : Ifs
  b : Nat
  Nb : List NbI
def ceII (t : IfI) : List AVal := cellsIx t.s (.osl t.b 0 t.Nb.length none 15)
def outC (T : List IfI) : List AVal := T.flatMap ceII
def ownI (t : IfI) : List (Nat × List AVal) := (t.b, nbC t.Nb) :: ownN t.Nb
def ownT (T : List IfI) : List (Nat × List AVal) := T.flatMap ownI
def erI (t : IfI) : Ifs := { t.s with Nb := t.Nb.map (·.n) }
theorem nbC_len (N : List NbI) : (nbC N).length = N.length * 15 := by
 induction N with
 | nil => rfl
 | cons x N ih => simp only [nbC, List.flatMap_cons, List.length_append] at ih ⊢; rw [ih]; simp [ceNI]; omega
theorem outC_len (T : List IfI) : (outC T).length = T.length * 15 := by
 induction T with
 | nil => rfl
 | cons x N ih => simp only [outC, List.flatMap_cons, List.length_append] at ih ⊢; rw [ih]; simp [ceII]; omega
theorem mid_get {A B cs : List AVal} {m j : Nat} (hA : A.length = m) (hj : j < cs.length) : (A ++ (cs ++ B))[m + j]? = cs[j]? := by
 rw [List.getElem?_append_right (by omega), show m + j - A.length = j by omega, List.getElem?_append_left hj]
theorem mid_set {A B cs : List AVal} {m j : Nat} {v : AVal} (hA : A.length = m) (hj : j < cs.length) : (A ++ (cs ++ B)).set (m + j) v = A ++ (cs.set j v ++ B) := by
 rw [List.set_append_right _ _ (by omega), show m + j - A.length = j by omega, List.set_append_left _ _ hj]
theorem mid_take {A B cs : List AVal} {m k : Nat} (hA : A.length = m) (hk : cs.length = k) : ((A ++ (cs ++ B)).drop m).take k = cs := by
 rw [← hA, List.drop_left, ← hk, List.take_left]
theorem mid_setR {A B cs ds : List AVal} {m : Nat} (hA : A.length = m) (hk : ds.length = cs.length) : setR (A ++ (cs ++ B)) m ds = A ++ (ds ++ B) := by
 rw [setR_mid _ _ _ (by rw [List.length_append]; omega) _ hA.symm, hk, List.drop_left]
end Go.Proofs.Ythonenmafbpbkaa

/- flood.clone, by the program. -/
namespace Go.Proofs.Ythonenmafbpbkaa
open Go Go.Am
set_option maxHeartbeats 8000000 in
set_option maxRecDepth 10000 in
theorem r37 (l : List Ifs) (hne : l ≠ []) (hl : l.length * 120 ≤ 140737488351232) (ok : ∀ s ∈ l, okIf s) (H0 : List (List AVal)) (L0 : List (Nat × List AVal)) (hH0 : Holds H0 L0) :
   CFunP Try.prog 37 [.sl 15 (l.map encIf) .sh] H0 (fun x H' => x = .osl H0.length 0 l.length (some l.length) 15 ∧ ∃ T, T.map erI = l ∧ Holds H' (L0 ++ (H0.length, outC T) :: ownT T)) := by
 refine CFunP.introA (tr := [100009]) (n := 51) (rs := [.tmp 2]) Try.func37 rfl (by kernel_rfl) rfl rfl mixed (by kernel_rfl) (by simp) (by simp) ?_
 obtain ⟨o, ho⟩ : ∃ o, o = H0.length := ⟨_, rfl⟩
 obtain ⟨n, hn⟩ : ∃ n, n = l.length := ⟨_, rfl⟩
 rw [← ho, ← hn]
 have n0 : 0 < n := by rw [hn]; exact List.length_pos_iff.2 hne
 have b1 : 120 * n ≤ 281474976710656 := by omega
 have b2 : (n : Int) ≤ 9223372036854775807 := by omega
 have n0' : ¬ n = 0 := by omega
 have hflat : (l.map encIf).flatMap AVal.cells = rowC ceI l := rowC_map (ce := ceI) l
 have hds := eIf.rowDis l
 have hrl : (rowC ceI l).length = n * 15 := by rw [eIf.rowLen, hn]
 have htk : (rowC ceI l).take (n * 15) = rowC ceI l := List.take_of_length_le (by omega)
 have hsc := eIf.rowScalar l
 have hset : setR (List.replicate n [AVal.int IntKind.i64 0, AVal.int IntKind.u32 0, AVal.int IntKind.i64 0, AVal.int IntKind.u32 0, AVal.int IntKind.u32 0, AVal.int IntKind.i64 0, AVal.int IntKind.i64 0, AVal.int IntKind.i64 0, AVal.int IntKind.i64 0, AVal.bool false, AVal.int IntKind.u32 0, AVal.int IntKind.u32 0,
     AVal.int IntKind.i64 0, AVal.int IntKind.i64 0, AVal.sl 0 [] Mode.full]).flatten 0 (rowC ceI l) = rowC ceI l := by
   have := mid_setR (A := []) (B := []) (cs := (List.replicate n [AVal.int IntKind.i64 0, AVal.int IntKind.u32 0, AVal.int IntKind.i64 0, AVal.int IntKind.u32 0, AVal.int IntKind.u32 0, AVal.int IntKind.i64 0, AVal.int IntKind.i64 0, AVal.int IntKind.i64 0, AVal.int IntKind.i64 0, AVal.bool false, AVal.int IntKind.u32 0, AVal.int IntKind.u32 0,
     AVal.int IntKind.i64 0, AVal.int IntKind.i64 0, AVal.sl 0 [] Mode.full]).flatten) (ds := rowC ceI l) (m := 0) rfl (by rw [hrl]; simp)
   simpa using this
 simp [← hn, n0, n0', b1, b2, hflat, hds, htk, hsc, hset, -setR, -List.all_eq_true]
 have hst : Holds (H0 ++ [rowC ceI l]) (L0 ++ (o, outC [] ++ rowC ceI (l.drop 0)) :: ownT []) := by
   rw [ho]
   simpa [outC, ownT] using Holds.new (H := H0) (L1 := L0) (L2 := []) (by simpa using hH0) (rowC ceI l) []
 refine LoopK.introP (tr := [100009]) mixed (by kernel_rfl) (fun μ s => ∃ (i : Nat) (T : List IfI), μ = n - i ∧ i ≤ n ∧ T.map erI = l.take i ∧ s.t 0 = .sl 15 (l.map encIf) .sh ∧ s.t 3 = .osl o 0 n (some n) 15 ∧ s.t 14 = .int .i64 n ∧ s.t 15 = .int .i64 i ∧
   Holds s.H (L0 ++ (o, outC T ++ rowC ceI (l.drop i)) :: ownT T)) n Sim.refl ?_ ?_
 · exact ⟨0, [], rfl, Nat.zero_le _, rfl, by simp, by simp [ho], by simp, by simp, hst⟩
 clear hset hst htk hsc hds hflat
 rintro μ ⟨t, H⟩ ⟨i, T, rfl, hin, hT, h0, h3, h14, h15, hH⟩
 simp only at h0 h3 h14 h15 hH
 have hTl : T.length = i := by
   have := congrArg List.length hT
   simp at this
   omega
 by_cases hi : i < n
 case neg =>
   have : i = n := by omega
   subst this
   simp [h14, h15, h3, retP]
   refine ⟨_, Sim.refl, ?_⟩
   simp
   refine ⟨T, by rw [hT, hn, List.take_length], ?_⟩
   rw [hn, List.drop_length] at hH
   simpa [rowC] using hH
 have hiI : (i : Int) < n := by omega
 obtain ⟨s, hs, hd⟩ := get_drop (l := l) (i := i) (by omega)
 have hsi := gE hs
 have hil : i < l.length := by omega
 have oks := ok s (List.mem_of_getElem? hs)
 rw [hd, rowC_cons] at hH
 obtain ⟨B, hB⟩ : ∃ B, B = rowC ceI (l.drop (i + 1)) := ⟨_, rfl⟩
 rw [← hB] at hH
 have hA : (outC T).length = i * 15 := by rw [outC_len, hTl]
 obtain ⟨m1, _, _⟩ := hH.mid
 have k76 := nb_cl s.Nb oks.nb H
 have hol := (List.getElem?_eq_some_iff.1 m1).1
 obtain ⟨Mc, hMc⟩ : ∃ Mc, Mc = outC T ++ (ceI s ++ B) := ⟨_, rfl⟩
 have hML : i * 15 + 15 ≤ Mc.length := by rw [hMc]; simp [hA, ceI]
 rw [← hMc] at m1
 have Ho : ∀ Z, (H ++ Z)[o]? = some Mc := fun Z => by rw [List.getElem?_append_left hol]; exact m1
 have Hs : ∀ Z Y, (H ++ Z).set o Y = H.set o Y ++ Z := fun Z Y => List.set_append_left _ _ hol
 have L14 : i * 15 + 14 + 1 ≤ Mc.length := by omega
 have l14 : i * 15 + 14 < Mc.length := by omega
 have w1 : IntKind.i64.wrap ((i : Int) + 1) = i + 1 := wrap_in (by omega)
 simp [h0, h3, h14, h15, hiI, hi, ← hn, hs, hsi]
 refine ⟨_, _, .inl (by simpa using k76), by simp, ?_⟩
 have Ho2 : ∀ Y Z, (H.set o Y ++ Z)[o]? = some Y := fun Y Z => by rw [List.getElem?_append_left (by simpa using hol)]; simp [hol]
 simp [h0, h3, h14, h15, hiI, hi, ← hn, hs, hsi, Ho, Hs, L14, l14, hol, Ho2]
 generalize hQ : LoopPostP _ _ _ _ _ = Q
 obtain ⟨b, hb⟩ : ∃ b, b = H.length := ⟨_, rfl⟩
 obtain ⟨m, hm⟩ : ∃ m, m = s.Nb.length := ⟨_, rfl⟩
 obtain ⟨ci, hci⟩ : ∃ ci, ci = cellsIx s (.osl b 0 m none 15) := ⟨_, rfl⟩
 have hMs : Mc.set (i * 15 + 14) (.osl b 0 m none 15) = outC T ++ (ci ++ B) := by
   rw [hMc, mid_set hA (by simp [ceI]), hci]
   rfl
 have hst : Holds (H.set o (outC T ++ (ci ++ B)) ++ [rowC ceN s.Nb]) (L0 ++ (o, outC T ++ (ci ++ B)) :: (ownT T ++ (b, nbC [] ++ rowC ceN (s.Nb.drop 0)) :: ownN [])) := by
   have h1 := hH.set (outC T ++ (ci ++ B))
   have h2 := Holds.new (L1 := L0 ++ (o, outC T ++ (ci ++ B)) :: ownT T) (L2 := []) (by simpa using h1) (rowC ceN s.Nb) []
   rw [List.length_set, ← hb] at h2
   simpa [nbC, ownN] using h2
 rw [← hb, ← hm, hMs]
 clear hMs L14 l14 hML Ho Hs Ho2 m1 hMc k76
 have hbnd := oks.nb
 rw [← hm] at hbnd
 refine LoopK.introP (tr := [100009]) mixed (by kernel_rfl) (fun μ s' => ∃ (k : Nat) (N : List NbI), μ = m - k ∧ k ≤ m ∧ N.map (·.n) = s.Nb.take k ∧ s'.t 0 = .sl 15 (l.map encIf) .sh ∧ s'.t 3 = .osl o 0 n (some n) 15 ∧ s'.t 14 = .int .i64 n ∧ s'.t 15 = .int .i64 i ∧
   s'.t 4 = .int .i64 i ∧ s'.t 32 = .osl b 0 m none 15 ∧ s'.t 33 = .int .i64 m ∧ s'.t 34 = .int .i64 k ∧
   Holds s'.H (L0 ++ (o, outC T ++ (ci ++ B)) :: (ownT T ++ (b, nbC N ++ rowC ceN (s.Nb.drop k)) :: ownN N))) m Sim.refl ?_ ?_
 · exact ⟨0, [], rfl, Nat.zero_le _, rfl, by simp [h0], by simp [h3], by simp [h14], by simp [h15], by simp, by simp, by simp, by simp, hst⟩
 clear hst hH h0 h3 h14 h15
 rintro μ ⟨t2, H2⟩ ⟨k, N, rfl, hkm, hN, h0, h3, h14, h15, h4, h32, h33, h34, hH⟩
 simp only at h0 h3 h14 h15 h4 h32 h33 h34 hH
 have hNl : N.length = k := by
   have := congrArg List.length hN
   simp at this
   omega
 by_cases hk : k < m
 case neg =>
   have : k = m := by omega
   subst this
   simp [h33, h34, h15, w1]
   rw [← hQ, LoopPostP_normal]
   refine ⟨_, n - (i + 1), Sim.refl, by omega, i + 1, rfl, hi, T ++ [⟨s, b, N⟩], ?_, by simp [h0], by simp [h3], by simp [h14], by simp, ?_⟩
   · rw [List.map_append, hT, List.take_add_one, hs]
     simp [erI, hN, hm]
   · rw [hm, List.drop_length] at hH
     have e1 : outC (T ++ [⟨s, b, N⟩]) ++ rowC ceI (l.drop (i + 1)) = outC T ++ (ci ++ B) := by
       rw [hB, hci]
       simp [outC, ceII, hNl]
     have e2 : ownT (T ++ [⟨s, b, N⟩]) = ownT T ++ (b, nbC N ++ rowC ceN []) :: ownN N := by
       simp [ownT, ownI, rowC]
     rw [e1, e2]
     exact hH
 have hkI : (k : Int) < m := by omega
 generalize hQ2 : LoopPostP _ _ _ _ _ = Q2
 obtain ⟨nk, hnk, hdk⟩ := get_drop (l := s.Nb) (i := k) (by omega)
 have okn := oks.nbs nk (List.mem_of_getElem? hnk)
 obtain ⟨Y, hY⟩ : ∃ Y, Y = rowC ceN (s.Nb.drop (k + 1)) := ⟨_, rfl⟩
 rw [hdk, rowC_cons, ← hY] at hH
 have hA2 : (nbC N).length = k * 15 := by rw [nbC_len, hNl]
 obtain ⟨Nc, hNc⟩ : ∃ Nc, Nc = nbC N ++ (ceN nk ++ Y) := ⟨_, rfl⟩
 have hNL : k * 15 + 15 ≤ Nc.length := by rw [hNc]; simp [hA2, ceN]
 have hH' : Holds H2 ((L0 ++ (o, outC T ++ (ci ++ B)) :: ownT T) ++ (b, Nc) :: ownN N) := by rw [hNc]; simpa using hH
 obtain ⟨mo, _, _⟩ := hH.mid
 obtain ⟨mb, _, _⟩ := hH'.mid
 have hol2 := (List.getElem?_eq_some_iff.1 mo).1
 have hbl2 := (List.getElem?_eq_some_iff.1 mb).1
 obtain ⟨Oc, hOc⟩ : ∃ Oc, Oc = outC T ++ (ci ++ B) := ⟨_, rfl⟩
 rw [← hOc] at mo
 have o14 : Oc[i * 15 + 14]? = some (.osl b 0 m none 15) := by
   rw [hOc, mid_get hA (by rw [hci]; simp), hci]
   rfl
 have hld : aload (some (true, 15)) Nc (k * 15) = some (encN nk) := by
   simp only [aload]
   rw [hNc, mid_take (cs := ceN nk) (k := 15) hA2 rfl, if_pos ⟨by omega, by rw [← hNc]; exact hNL, by simp [ceN]⟩]
   rfl
 obtain ⟨a, u, Z, k49, hZ⟩ := r49 nk okn (H2 ++ [cellsN nk])
 have hlx : aload (some (true, 15)) (cellsN nk) 0 = some (encN nk) := rfl
 have hsR : setR Nc (k * 15) (ceNI ⟨nk, a, u⟩) = nbC (N ++ [⟨nk, a, u⟩]) ++ Y := by
   rw [hNc, mid_setR (cs := ceN nk) (ds := ceNI ⟨nk, a, u⟩) hA2 (by simp [ceNI, ceN])]
   simp [nbC]
 have w2 : IntKind.i64.wrap ((k : Int) + 1) = k + 1 := wrap_in (by omega)
 simp only [cellsN, cellsNx, encN, ceNI, cellsO] at hld hlx k49 hsR
 have Mo : ∀ Z, (H2 ++ Z)[o]? = some Oc := fun Z => by rw [List.getElem?_append_left hol2]; exact mo
 have Mb : ∀ Z, (H2 ++ Z)[b]? = some Nc := fun Z => by rw [List.getElem?_append_left hbl2]; exact mb
 have tkA : ∀ x : List AVal, List.take (H2.length + 1) (H2 ++ [x]) = H2 ++ [x] := fun x => List.take_of_length_le (by simp)
 simp [h0, h3, h14, h15, h4, h32, h33, h34, hkI, hk, mb, mo, hld, hlx, -aload, aloadF, Mo, Mb, o14, hi, hiI, tkA]
 refine ⟨_, _, .inl (by simpa using k49), by simp [List.take_append], ?_⟩
 simp [h0, h3, h14, h15, h4, h32, h33, h34, hkI, hk, mb, mo, hld, hlx, -aload, aloadF, Mo, Mb, o14, hi, hiI, tkA, -setR, hNL, hsR, w2]
 rw [← hQ2, LoopPostP_normal]
 refine ⟨_, m - (k + 1), Sim.refl, by omega, k + 1, N ++ [⟨nk, a, u⟩], rfl, hk, ?_, by simp [h0], by simp [h3], by simp [h14], by simp [h15], by simp [h4], by simp [h32], by simp [h33], by simp, ?_⟩
 · rw [List.map_append, hN, List.take_add_one, hnk]
   simp
 · have h1 := hZ _ (hH'.snoc [cellsN nk])
   have h2 : Holds (H2 ++ [cellsN nk] ++ Z) ((L0 ++ (o, outC T ++ (ci ++ B)) :: ownT T) ++ (b, Nc) :: (ownN N ++ [(a, rowU nk.Req), (u, rowU nk.Una)])) := by simpa using h1
   have h3 := h2.set (nbC (N ++ [⟨nk, a, u⟩]) ++ Y)
   have e : ownN (N ++ [⟨nk, a, u⟩]) = ownN N ++ [(a, rowU nk.Req), (u, rowU nk.Una)] := by simp [ownN]
   rw [e, ← hY]
   simpa [-setR, hsR] using h3
end Go.Proofs.Ythonenmafbpbkaa

/- Words in a list; the neighbors of an interface of the call's own. -/
namespace Go.Proofs.Ythonenmafbpbkaa
open Go Go.Am
def encW (n : Int) : AVal := .int .u32 n
@[simp] theorem encW_eq (n : Int) : encW n = .int .u32 n := rfl
set_option maxHeartbeats 4000000 in
set_option maxRecDepth 10000 in
theorem r77 (l : List Int) (n : Nat) (hn : l.length = n) (hlen : n < 140737488355328) (x : Int) : CFun Try.prog 77 [.sl 1 (l.map encW) .sh, .int .u32 x] [] (.int .i64 (idxL (fun y => decide (x = y)) l 0)) [] := by
 refine CFun.intro (tr := []) (fz := []) (n := 19) (rs := [.tmp 4]) Try.func77 rfl (by kernel_rfl) rfl rfl mixed (by kernel_rfl) (by simp) (by simp) ?_
 simp [hn]
 refine LoopK.intro (tr := []) mixed (by kernel_rfl) (fun i : Nat => [(0, .sl 1 (l.map encW) .sh), (1, .int .u32 x), (7, .int .i64 n), (8, .int .i64 i)]) (fun _ => []) (fun i => i ≤ n ∧ idxL (fun y => decide (x = y)) l 0 = idxL (fun y => decide (x = y)) (l.drop i) i) (fun i => n - i) 0 ?_ ?_ ?_
 · exact ⟨Nat.zero_le _, by simp⟩
 · simp
 · rintro i ⟨h1, h2⟩
   by_cases hi : i < n
   · obtain ⟨y, hy, hd⟩ := get_drop (l := l) (i := i) (by omega)
     have w1 : IntKind.i64.wrap ((i : Int) + 1) = i + 1 := wrap_in (by omega)
     have hil : i < l.length := by omega
     rw [hd] at h2
     simp only [idxL] at h2
     by_cases hb : x = y
     · subst hb
       simp at h2
       simp [hi, hn, hy, gE hy, h2]
     · rw [if_neg (by simpa using hb)] at h2
       simp [hi, hn, hy, gE hy, hb, w1]
       exact ⟨i + 1, ⟨hi, h2⟩, by omega, by simp⟩
   · rw [List.drop_eq_nil_of_le (by omega)] at h2
     simp [hi, hn, h2, idxL]
theorem r38 (l : List Int) (hlen : l.length < 140737488355328) (x : Int) : CFun Try.prog 38 [.sl 1 (l.map encW) .sh, .int .u32 x] [] (.bool (l.any fun y => decide (x = y))) [] := by
 refine CFun.intro (tr := []) (fz := []) (n := 9) (rs := [.tmp 4]) Try.func38 rfl (by kernel_rfl) rfl rfl mixed (by kernel_rfl) (by simp) (by simp) ?_
 have k := fun H => (r77 l _ rfl hlen x).up' H rfl rfl
 rw [idxL_any _ l 0]
 generalize idxL (fun y => decide (x = y)) l 0 = q at *
 simp
 refine ⟨_, _, .inl (by simpa using k _), by simp, ?_⟩
 simp
set_option maxHeartbeats 4000000 in
set_option maxRecDepth 10000 in
theorem r45 (l : List Int) (n : Nat) (hn : l.length = n) (hlen : n < 140737488355328) (x : Int) : CFun Try.prog 45 [.sl 1 (l.map encW) .sh, .int .u32 x] [] (.bool (l.any fun y => decide (x = y))) [] := by
 refine CFun.intro (tr := []) (fz := []) (n := 18) (rs := [.tmp 4]) Try.func45 rfl (by kernel_rfl) rfl rfl mixed (by kernel_rfl) (by simp) (by simp) ?_
 generalize hq : (l.any fun y => decide (x = y)) = q
 simp
 refine LoopK.intro (tr := []) mixed (by kernel_rfl) (fun i : Nat => [(0, .sl 1 (l.map encW) .sh), (1, .int .u32 x), (5, .int .i64 i)]) (fun _ => []) (fun i => i ≤ n ∧ ((l.drop i).any fun y => decide (x = y)) = q) (fun i => n - i) 0 ?_ ?_ ?_
 · exact ⟨Nat.zero_le _, by simpa using hq⟩
 · simp
 · rintro i ⟨h1, h2⟩
   by_cases hi : i < n
   · obtain ⟨y, hy, hd⟩ := get_drop (l := l) (i := i) (by omega)
     have w1 : IntKind.i64.wrap ((i : Int) + 1) = i + 1 := wrap_in (by omega)
     have hil : i < l.length := by omega
     rw [hd, List.any_cons] at h2
     by_cases hb : x = y
     · subst hb
       simp at h2
       subst h2
       simp [hi, hn, hy, gE hy]
     · have hb' : ¬ y = x := fun e => hb e.symm
       rw [decide_eq_false hb, Bool.false_or] at h2
       simp [hi, hn, hy, gE hy, hb, hb', w1]
       exact ⟨i + 1, ⟨hi, h2⟩, by omega, by simp⟩
   · rw [List.drop_eq_nil_of_le (by omega)] at h2
     simp at h2
     subst h2
     simp [hi, hn]
set_option maxHeartbeats 2000000 in
set_option maxRecDepth 10000 in
theorem r39 (o off : Nat) (H : List (List AVal)) : CFun Try.prog 39 [.ptr o off] H (.fn 78 [] [.ptr H.length 0]) (H ++ [[.ptr o off]]) := by
 refine CFunP.toFun (CFunP.introA (tr := []) (n := 4) (rs := [.tmp 2]) Try.func39 rfl (by kernel_rfl) rfl rfl mixed (by kernel_rfl) (by simp) (by simp) ?_)
 simp [retP]
 exact ⟨_, Sim.refl, rfl, rfl⟩
end Go.Proofs.Ythonenmafbpbkaa
