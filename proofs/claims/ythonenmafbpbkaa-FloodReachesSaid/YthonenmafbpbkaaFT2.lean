/- What Spread answers; contracts that give back data alone. -/
import Derived.Test.YthonenmafbpbkaaFS11
import Derived.Test.YthonenmafbpbkaaBmAK
set_option linter.unusedSimpArgs false
set_option linter.unusedVariables false
namespace Go.Proofs.Ythonenmafbpbkaa
open Go Go.Am
def insN (n : Nbr) (h : Hdr) (now : Int) : Nbr := { n with Una := insL n.Una (posH n.Una (keyH h)) h, Rsd := if n.Rsd = 0 then now + 5 else n.Rsd }
def givP (fr : Bool) (snd : Int) (h : Hdr) (now : Int) (n : Nbr) : Nbr × Bool :=
 if n.State < 4 then (n, false) else if (reqN n h).2 = true then ((reqN n h).1, false) else if fr = true ∧ n.Router = snd then ((reqN n h).1, false) else (insN (reqN n h).1 h now, true)
def skipB (fr : Bool) (snd : Int) (s : Ifs) : Bool := fr && (decide (s.Kind = 2) && (decide (snd ≠ 0) && (decide (snd = s.DR) || decide (snd = s.BDR))))
def outB (areas : List Int) (s : Ifs) : Bool := !s.Up || (decide (s.Kind = 3) || !(areas.any fun y => decide (s.C4 = y)))
def sprI (areas : List Int) (fr : Bool) (snd : Int) (h : Hdr) (now : Int) (s : Ifs) : Ifs × Bool :=
 if outB areas s = true then (s, false) else if skipB fr snd s = true then ({ s with Nb := s.Nb.map (remN · h) }, false) else
   ({ s with Nb := s.Nb.map fun n => (givP fr snd h now (remN n h)).1 }, s.Nb.any fun n => (givP fr snd h now (remN n h)).2)
def sprL (areas : List Int) (fr snd : Int) (h : Hdr) (now : Int) : Nat → List Ifs → List Ifs × List Nat
 | _, [] => ([], [])
 | i, s :: l => ((sprI areas (decide ((i : Int) = fr)) snd h now s).1 :: (sprL areas fr snd h now (i + 1) l).1,
     if (sprI areas (decide ((i : Int) = fr)) snd h now s).2 = true then i :: (sprL areas fr snd h now (i + 1) l).2 else (sprL areas fr snd h now (i + 1) l).2)
theorem cfunD {P : Program} {f : FuncId} {args : List AVal} {Q : AVal → List (List AVal) → Prop} (x : AVal) (h : CFunP P f args [] Q) (hq : ∀ y H', Q y H' → y = x) (hn : noid x = true) (ho : x.isOwn = false) : CFun P f args [] x [] := by
 refine ⟨h.1, fun G w cargs h1 h2 h3 h4 h5 => (h.2 G w cargs h1 h2 h3 h4 h5).mono ?_⟩
 rintro e w' ⟨y, H', hy, v, G', rfl, g1, g2, g3, g4, g5, g6⟩
 obtain rfl := hq y H' hy
 exact ⟨v, G', rfl, g1, ⟨g2.frz, fun id cs hid => by simp at hid, g2.new⟩, noid_rep g3 hn, OwnAt.of_not ho, g5, Nat.le_refl _⟩
end Go.Proofs.Ythonenmafbpbkaa

/- Interfaces of the call's own become data. -/
namespace Go.Proofs.Ythonenmafbpbkaa
open Go Go.Am
theorem simSlot {n m : Nat} {s : ASt} (d : Nat) (x : AVal) (hd : d < n) (h : LeV (s.t d) x) : Sim n m s ⟨upd s.t d x, s.H⟩ := by
 intro G0 w0 G a w hR
 refine ⟨G, hR.build (s' := ⟨upd s.t d x, s.H⟩) (Ext.refl _ _ _ _) hR.sr (Nat.le_refl _) hR.sz rfl (fun i hi => ?_) (fun i u hu => ?_)⟩
 · simp only [upd]; rw [if_neg (by omega)]; exact hR.out i hi
 · simp only [upd]
   split
   · rename_i e
     subst e
     obtain ⟨r1, r2⟩ := hR.tmp i u hu
     exact LeV_sound h r1 r2
   · exact hR.tmp i u hu
section
variable {n m : Nat}
theorem frz_row {s : ASt} {L1 L2 : List (Nat × List AVal)} {u b j : Nat} {cb : List AVal} {l : List Hdr} (h : Holds s.H (L1 ++ (b, cb) :: (u, rowU l) :: L2)) (hj : cb[j]? = some (.osl u 0 l.length none 7)) :
   ∃ H', Sim n m s ⟨s.t, H'⟩ ∧ Holds H' (L1 ++ (b, cb.set j (.sl 7 (l.map encH) .sh)) :: L2) := by
 obtain ⟨hb, _, hb2⟩ := h.mid
 have h2 : Holds s.H ((L1 ++ [(b, cb)]) ++ (u, rowU l) :: L2) := by simpa using h
 obtain ⟨hu, hu1, _⟩ := h2.mid
 have hbu : b ≠ u := hu1 (b, cb) (by simp)
 by_cases e : l = []
 · refine ⟨s.H.set b (cb.set j (.sl 7 (l.map encH) .sh)), ?_, ?_⟩
   · refine Sim.cellW hb hj (fun r F v hv => ?_) rfl
     rw [e] at hv ⊢
     exact osl0_sl hv
   · have h3 : Holds s.H (L1 ++ (b, cb) :: L2) := h.sub (List.Sublist.append (List.Sublist.refl _) ((List.sublist_cons_self _ _).cons_cons _))
     exact h3.set _
 · have hs := Sim.freezeC (n := n) (m := m) u b j true false (cs0 := rowC ceH l) (by rw [hu, rowU_of e]) (row_ne e) hb hj hbu (eHh.rowTree l)
   have ev : frzV u (rowC ceH l) true false (.osl u 0 l.length none 7) = .sl 7 (l.map encH) .sh := by
     simp only [frzV, frz1]
     rw [if_pos ⟨trivial, by rw [eHh.rowLen]; omega, by omega, .inl trivial⟩, eHh.chunk _ _ rfl]
     rfl
   rw [ev] at hs
   refine ⟨_, hs, ?_⟩
   have h3 := (h2.set []).sub (L' := L1 ++ (b, cb) :: L2) (by
     rw [List.append_assoc]
     refine List.Sublist.append (List.Sublist.refl _) ?_
     exact (List.sublist_cons_self _ _).cons_cons _)
   exact h3.set _
theorem frz_nb {s : ASt} {L1 L2 : List (Nat × List AVal)} {b : Nat} {A B : List AVal} {x : NbI} (h : Holds s.H (L1 ++ (b, A ++ (ceNI x ++ B)) :: (x.a, rowU x.n.Req) :: (x.u, rowU x.n.Una) :: L2)) :
   ∃ H', Sim n m s ⟨s.t, H'⟩ ∧ Holds H' (L1 ++ (b, A ++ (ceN x.n ++ B)) :: L2) := by
 obtain ⟨H1, s1, h1⟩ := frz_row (n := n) (m := m) (j := A.length + 12) h (by rw [mid_get rfl (by simp [ceNI])]; rfl)
 rw [mid_set rfl (by simp [ceNI])] at h1
 obtain ⟨H2, s2, h2⟩ := frz_row (n := n) (m := m) (s := ⟨s.t, H1⟩) (j := A.length + 13) h1 (by rw [mid_get rfl (by simp [ceNI])]; rfl)
 rw [mid_set rfl (by simp [ceNI])] at h2
 exact ⟨H2, s1.trans s2, h2⟩
theorem frz_nbs {L1 L2 : List (Nat × List AVal)} {b : Nat} : ∀ (N : List NbI) (A : List AVal) {s : ASt}, Holds s.H (L1 ++ (b, A ++ nbC N) :: (ownN N ++ L2)) → ∃ H', Sim n m s ⟨s.t, H'⟩ ∧ Holds H' (L1 ++ (b, A ++ rowC ceN (N.map (·.n))) :: L2)
 | [], A, s, h => ⟨s.H, Sim.refl, by simpa [nbC, ownN, rowC] using h⟩
 | x :: N, A, s, h => by
   have h' : Holds s.H (L1 ++ (b, A ++ (ceNI x ++ nbC N)) :: (x.a, rowU x.n.Req) :: (x.u, rowU x.n.Una) :: (ownN N ++ L2)) := by simpa [nbC, ownN] using h
   obtain ⟨H1, s1, h1⟩ := frz_nb (n := n) (m := m) h'
   rw [← List.append_assoc] at h1
   obtain ⟨H2, s2, h2⟩ := frz_nbs N (A ++ ceN x.n) (s := ⟨s.t, H1⟩) h1
   refine ⟨H2, s1.trans s2, ?_⟩
   simpa [rowC] using h2
theorem frz_if {s : ASt} {L1 L2 : List (Nat × List AVal)} {o : Nat} {A B : List AVal} {t : IfI} (h : Holds s.H (L1 ++ (o, A ++ (ceII t ++ B)) :: (ownI t ++ L2))) :
   ∃ H', Sim n m s ⟨s.t, H'⟩ ∧ Holds H' (L1 ++ (o, A ++ (ceI (erI t) ++ B)) :: L2) := by
 have h0 : Holds s.H ((L1 ++ [(o, A ++ (ceII t ++ B))]) ++ (t.b, [] ++ nbC t.Nb) :: (ownN t.Nb ++ L2)) := by simpa [ownI] using h
 obtain ⟨H1, s1, h1⟩ := frz_nbs (n := n) (m := m) t.Nb [] h0
 have h1' : Holds H1 (L1 ++ (o, A ++ (ceII t ++ B)) :: (t.b, rowC ceN (t.Nb.map (·.n))) :: L2) := by simpa using h1
 obtain ⟨ho, _, _⟩ := h1'.mid
 obtain ⟨hb, hb1, _⟩ := h1.mid
 have hob : o ≠ t.b := hb1 (o, A ++ (ceII t ++ B)) (by simp)
 have hj : (A ++ (ceII t ++ B))[A.length + 14]? = some (.osl t.b 0 (t.Nb.map (·.n)).length none 15) := by
   rw [mid_get rfl (by simp [ceII]), List.length_map]
   rfl
 have s2 := Sim.frzRowC (n := n) (m := m) (s := ⟨s.t, H1⟩) eNb (l := t.Nb.map (·.n)) (by simpa using hb) ho hj (fun e => hob e.symm)
 refine ⟨_, s1.trans s2, ?_⟩
 have h3 : Holds H1 ((L1 ++ [(o, A ++ (ceII t ++ B))]) ++ (t.b, rowC ceN (t.Nb.map (·.n))) :: L2) := by simpa using h1
 have h4 := (h3.set []).sub (L' := L1 ++ (o, A ++ (ceII t ++ B)) :: L2) (by
   rw [List.append_assoc]
   refine List.Sublist.append (List.Sublist.refl _) ?_
   exact (List.sublist_cons_self _ _).cons_cons _)
 have h5 := h4.set ((A ++ (ceII t ++ B)).set (A.length + 14) (.sl 15 ((t.Nb.map (·.n)).map fun x => .agg (ceN x)) .sh))
 rw [mid_set rfl (by simp [ceII])] at h5
 rw [mid_set rfl (by simp [ceII])]
 exact h5
theorem frz_ifs {L1 L2 : List (Nat × List AVal)} {o : Nat} : ∀ (T : List IfI) (A : List AVal) {s : ASt}, Holds s.H (L1 ++ (o, A ++ outC T) :: (ownT T ++ L2)) → ∃ H', Sim n m s ⟨s.t, H'⟩ ∧ Holds H' (L1 ++ (o, A ++ rowC ceI (T.map erI)) :: L2)
 | [], A, s, h => ⟨s.H, Sim.refl, by simpa [outC, ownT, rowC] using h⟩
 | x :: T, A, s, h => by
   have h' : Holds s.H (L1 ++ (o, A ++ (ceII x ++ outC T)) :: (ownI x ++ (ownT T ++ L2))) := by simpa [outC, ownT] using h
   obtain ⟨H1, s1, h1⟩ := frz_if (n := n) (m := m) h'
   rw [← List.append_assoc] at h1
   obtain ⟨H2, s2, h2⟩ := frz_ifs T (A ++ ceI (erI x)) (s := ⟨s.t, H1⟩) h1
   refine ⟨H2, s1.trans s2, ?_⟩
   simpa [rowC] using h2
theorem frz_out {s : ASt} {L1 : List (Nat × List AVal)} {o i : Nat} {cap : Option Nat} {T : List IfI} (hT : T ≠ []) (h : Holds s.H (L1 ++ (o, outC T) :: ownT T)) (hi : s.t i = .osl o 0 T.length cap 15) :
   ∃ H', Sim n m s ⟨upd s.t i (.sl 15 ((T.map erI).map encIf) .sh), H'⟩ := by
 obtain ⟨H1, s1, h1⟩ := frz_ifs (n := n) (m := m) (L1 := L1) (L2 := []) T [] (s := s) (by simpa using h)
 obtain ⟨ho, _, _⟩ := h1.mid
 have s2 := Sim.frzRowT (n := n) (m := m) (s := ⟨s.t, H1⟩) (i := i) (cap := cap) eIf (l := T.map erI) (by simpa using ho) (by simpa using hi) (by simpa using hT)
 exact ⟨_, s1.trans s2⟩
end
end Go.Proofs.Ythonenmafbpbkaa

/- Steps of Spread upon one neighbor, of variables that are known by their numbers. -/
namespace Go.Proofs.Ythonenmafbpbkaa
open Go Go.Am
theorem nbC_app (N1 : List NbI) (x : NbI) (N2 : List NbI) : nbC (N1 ++ x :: N2) = nbC N1 ++ (ceNI x ++ nbC N2) := by simp [nbC]
theorem ownN_app (N1 : List NbI) (x : NbI) (N2 : List NbI) : ownN (N1 ++ x :: N2) = ownN N1 ++ (x.a, rowU x.n.Req) :: (x.u, rowU x.n.Una) :: ownN N2 := by simp [ownN]
theorem at_nb {H : List (List AVal)} {K1 K2 : List (Nat × List AVal)} {b : Nat} {N1 N2 : List NbI} {x : NbI} (hH : Holds H (K1 ++ (b, nbC (N1 ++ x :: N2)) :: (ownN (N1 ++ x :: N2) ++ K2))) :
   H[b]? = some (nbC N1 ++ (ceNI x ++ nbC N2)) ∧ N1.length * 15 + 15 ≤ (nbC N1 ++ (ceNI x ++ nbC N2)).length ∧ ((nbC N1 ++ (ceNI x ++ nbC N2)).drop (N1.length * 15)).take 15 = ceNI x ∧ H[x.a]? = some (rowU x.n.Req) ∧ H[x.u]? = some (rowU x.n.Una) ∧ x.a ≠ b ∧ x.u ≠ b := by
 obtain ⟨hb, _, hb2⟩ := hH.mid
 rw [nbC_app] at hb
 refine ⟨hb, by simp [nbC_len, ceNI], mid_take (nbC_len N1) rfl, ?_, ?_, ?_, ?_⟩
 · exact hH.get (by rw [ownN_app]; simp)
 · exact hH.get (by rw [ownN_app]; simp)
 · exact hb2 (x.a, rowU x.n.Req) (by rw [ownN_app]; simp)
 · exact hb2 (x.u, rowU x.n.Una) (by rw [ownN_app]; simp)
theorem rem_step {H : List (List AVal)} {K1 K2 : List (Nat × List AVal)} {b : Nat} {N1 N2 : List NbI} {x : NbI} (h : Hdr) (hH : Holds H (K1 ++ (b, nbC (N1 ++ x :: N2)) :: (ownN (N1 ++ x :: N2) ++ K2))) (hlen : x.n.Una.length < 8796093022208) :
   ∃ H'', CFun Try.prog 40 [.ptr b (N1.length * 15), encH h] H (.tup []) H'' ∧ Holds H'' (K1 ++ (b, nbC (N1 ++ ⟨remN x.n h, x.a, x.u⟩ :: N2)) :: (ownN (N1 ++ ⟨remN x.n h, x.a, x.u⟩ :: N2) ++ K2)) ∧ H.length ≤ H''.length := by
 obtain ⟨hb, hL, hT, ha, hu, hab, hub⟩ := at_nb hH
 refine ⟨_, r40 x.n h x.a x.n.Req.length x.u b (N1.length * 15) H _ hlen hb hL hT hu hub, ?_, by simp⟩
 have e : ((nbC N1 ++ (ceNI x ++ nbC N2)).set (N1.length * 15 + 13) (.osl x.u 0 (remN x.n h).Una.length none 7)).set (N1.length * 15 + 14) (.int .i64 (remN x.n h).Rsd) = nbC (N1 ++ ⟨remN x.n h, x.a, x.u⟩ :: N2) := by
   rw [mid_set (nbC_len N1) (by simp [ceNI]), mid_set (nbC_len N1) (by simp [ceNI]), nbC_app]
   rfl
 rw [e]
 rw [ownN_app] at hH
 have h1 : Holds H ((K1 ++ (b, nbC (N1 ++ x :: N2)) :: (ownN N1 ++ [(x.a, rowU x.n.Req)])) ++ (x.u, rowU x.n.Una) :: (ownN N2 ++ K2)) := by simpa using hH
 have h2 := h1.set (rowU (remN x.n h).Una)
 have h3 : Holds (H.set x.u (rowU (remN x.n h).Una)) (K1 ++ (b, nbC (N1 ++ x :: N2)) :: (ownN N1 ++ (x.a, rowU x.n.Req) :: (x.u, rowU (remN x.n h).Una) :: ownN N2 ++ K2)) := by simpa using h2
 have h4 := (h3.set (nbC (N1 ++ ⟨remN x.n h, x.a, x.u⟩ :: N2))).snoc [[], []]
 rw [ownN_app]
 exact h4
theorem lessR_fields (n : Nbr) (i : Nat) : (lessR n i).Router = n.Router ∧ (lessR n i).Addr = n.Addr ∧ (lessR n i).Pri = n.Pri ∧ (lessR n i).DR = n.DR ∧ (lessR n i).BDR = n.BDR ∧ (lessR n i).Til = n.Til ∧ (lessR n i).Master = n.Master ∧ (lessR n i).Seq = n.Seq ∧ (lessR n i).Lst = n.Lst ∧ (lessR n i).Sent = n.Sent ∧ (lessR n i).More = n.More ∧ (lessR n i).Una = n.Una := by
 unfold lessR
 split <;> exact ⟨rfl, rfl, rfl, rfl, rfl, rfl, rfl, rfl, rfl, rfl, rfl, rfl⟩
theorem reqN_fields (n : Nbr) (h : Hdr) : (reqN n h).1.Router = n.Router ∧ (reqN n h).1.Addr = n.Addr ∧ (reqN n h).1.Pri = n.Pri ∧ (reqN n h).1.DR = n.DR ∧ (reqN n h).1.BDR = n.BDR ∧ (reqN n h).1.Til = n.Til ∧ (reqN n h).1.Master = n.Master ∧ (reqN n h).1.Seq = n.Seq ∧ (reqN n h).1.Lst = n.Lst ∧ (reqN n h).1.Sent = n.Sent ∧ (reqN n h).1.More = n.More ∧ (reqN n h).1.Una = n.Una := by
 unfold reqN
 split
 · exact ⟨rfl, rfl, rfl, rfl, rfl, rfl, rfl, rfl, rfl, rfl, rfl, rfl⟩
 · split
   · exact ⟨rfl, rfl, rfl, rfl, rfl, rfl, rfl, rfl, rfl, rfl, rfl, rfl⟩
   · split
     · exact ⟨rfl, rfl, rfl, rfl, rfl, rfl, rfl, rfl, rfl, rfl, rfl, rfl⟩
     · exact lessR_fields _ _
theorem req_step {H : List (List AVal)} {K1 K2 : List (Nat × List AVal)} {b : Nat} {N1 N2 : List NbI} {x : NbI} (h : Hdr) (hH : Holds H (K1 ++ (b, nbC (N1 ++ x :: N2)) :: (ownN (N1 ++ x :: N2) ++ K2))) (hlen : x.n.Req.length * 56 ≤ 140737488351232) :
   ∃ H'', CFun Try.prog 41 [.ptr b (N1.length * 15), encH h] H (.bool (reqN x.n h).2) H'' ∧ Holds H'' (K1 ++ (b, nbC (N1 ++ ⟨(reqN x.n h).1, x.a, x.u⟩ :: N2)) :: (ownN (N1 ++ ⟨(reqN x.n h).1, x.a, x.u⟩ :: N2) ++ K2)) ∧ H.length ≤ H''.length := by
 obtain ⟨hb, hL, hT, ha, hu, hab, hub⟩ := at_nb hH
 refine ⟨_, r41 x.n h x.a x.u b (N1.length * 15) H _ hlen hb hL hT ha hab, ?_, by simp⟩
 obtain ⟨e1, e2, e3, e4, e5, e6, e7, e8, e9, e10, e11, e12⟩ := reqN_fields x.n h
 have e : setQ (nbC N1 ++ (ceNI x ++ nbC N2)) (N1.length * 15) x.a (reqN x.n h).1 = nbC (N1 ++ ⟨(reqN x.n h).1, x.a, x.u⟩ :: N2) := by
   unfold setQ
   rw [mid_set (nbC_len N1) (by simp [ceNI]), mid_set (nbC_len N1) (by simp [ceNI]), mid_set (nbC_len N1) (by simp [ceNI]), nbC_app]
   simp [ceNI, e1, e2, e3, e4, e5, e6, e7, e8, e9, e10, e11, e12]
 rw [e]
 rw [ownN_app] at hH
 have h1 : Holds H ((K1 ++ (b, nbC (N1 ++ x :: N2)) :: ownN N1) ++ (x.a, rowU x.n.Req) :: ((x.u, rowU x.n.Una) :: ownN N2 ++ K2)) := by simpa using hH
 have h2 := h1.set (rowU (reqN x.n h).1.Req)
 have h3 : Holds (H.set x.a (rowU (reqN x.n h).1.Req)) (K1 ++ (b, nbC (N1 ++ x :: N2)) :: (ownN N1 ++ (x.a, rowU (reqN x.n h).1.Req) :: (x.u, rowU (reqN x.n h).1.Una) :: ownN N2 ++ K2)) := by rw [e12]; simpa using h2
 have h4 := (h3.set (nbC (N1 ++ ⟨(reqN x.n h).1, x.a, x.u⟩ :: N2))).snoc [[]]
 rw [ownN_app]
 exact h4
theorem ins_step {H : List (List AVal)} {K1 K2 : List (Nat × List AVal)} {b : Nat} {N1 N2 : List NbI} {x : NbI} (W : List Hdr) (hH : Holds H (K1 ++ (b, nbC (N1 ++ x :: N2)) :: (ownN (N1 ++ x :: N2) ++ K2))) :
   Holds ((H.set x.u [] ++ [rowU W]).set b ((nbC N1 ++ (ceNI x ++ nbC N2)).set (N1.length * 15 + 13) (.osl H.length 0 W.length none 7))) (K1 ++ (b, nbC (N1 ++ ⟨{ x.n with Una := W }, x.a, H.length⟩ :: N2)) :: (ownN (N1 ++ ⟨{ x.n with Una := W }, x.a, H.length⟩ :: N2) ++ K2)) := by
 have e : (nbC N1 ++ (ceNI x ++ nbC N2)).set (N1.length * 15 + 13) (.osl H.length 0 W.length none 7) = nbC (N1 ++ ⟨{ x.n with Una := W }, x.a, H.length⟩ :: N2) := by
   rw [mid_set (nbC_len N1) (by simp [ceNI]), nbC_app]
   rfl
 rw [e]
 rw [ownN_app] at hH
 have h1 : Holds H ((K1 ++ (b, nbC (N1 ++ x :: N2)) :: (ownN N1 ++ [(x.a, rowU x.n.Req)])) ++ (x.u, rowU x.n.Una) :: (ownN N2 ++ K2)) := by simpa using hH
 have h2 := h1.move (rowU W) []
 have h3 : Holds (H.set x.u [] ++ [rowU W]) (K1 ++ (b, nbC (N1 ++ x :: N2)) :: (ownN N1 ++ (x.a, rowU x.n.Req) :: (H.length, rowU W) :: ownN N2 ++ K2)) := by simpa using h2
 have h4 := h3.set (nbC (N1 ++ ⟨{ x.n with Una := W }, x.a, H.length⟩ :: N2))
 rw [ownN_app]
 exact h4
theorem rsd_step {H : List (List AVal)} {K1 K2 : List (Nat × List AVal)} {b : Nat} {N1 N2 : List NbI} {x : NbI} (v : Int) (hH : Holds H (K1 ++ (b, nbC (N1 ++ x :: N2)) :: (ownN (N1 ++ x :: N2) ++ K2))) :
   Holds (H.set b ((nbC N1 ++ (ceNI x ++ nbC N2)).set (N1.length * 15 + 14) (.int .i64 v))) (K1 ++ (b, nbC (N1 ++ ⟨{ x.n with Rsd := v }, x.a, x.u⟩ :: N2)) :: (ownN (N1 ++ ⟨{ x.n with Rsd := v }, x.a, x.u⟩ :: N2) ++ K2)) := by
 have e : (nbC N1 ++ (ceNI x ++ nbC N2)).set (N1.length * 15 + 14) (.int .i64 v) = nbC (N1 ++ ⟨{ x.n with Rsd := v }, x.a, x.u⟩ :: N2) := by
   rw [mid_set (nbC_len N1) (by simp [ceNI]), nbC_app]
   rfl
 rw [e]
 have h4 := hH.set (nbC (N1 ++ ⟨{ x.n with Rsd := v }, x.a, x.u⟩ :: N2))
 rw [ownN_app] at h4 ⊢
 exact h4
end Go.Proofs.Ythonenmafbpbkaa

/- An open region: what holds of what is listed. -/
namespace Go.Proofs.Ythonenmafbpbkaa
open Go Go.Am
structure AnyI (a n : Nat) (vl : Nat → AVal) (hp : (Nat → Bool) → List (List AVal)) (D : (Nat → Bool) → Prop) (t0 : Nat → AVal) (l : Nat → Bool) (s : ASt) : Prop where
  t0 : ∀ k, k < a ∨ a + n ≤ k → s.t k = t0 k
  val : ∀ k, k < n → l k = true → s.t (a + k) = vl k
  H : s.H = hp l
  d : D l
variable {a n : Nat} {vl : Nat → AVal} {hp : (Nat → Bool) → List (List AVal)} {D : (Nat → Bool) → Prop} {t0 : Nat → AVal} {l : Nat → Bool} {s : ASt}
theorem AnyI.put (h : AnyI a n vl hp D t0 l s) (i : Nat) (hi : i < n) {v : AVal} {d : Nat} {H' : List (List AVal)} (hd : d = a + i) (hv : v = vl i) (hH : hp (fun j => if j = i then true else l j) = H') (hD : D fun j => if j = i then true else l j) : AnyI a n vl hp D t0 (fun j => if j = i then true else l j) ⟨upd s.t d v, H'⟩ := by
 subst hd hv
 refine ⟨fun k hk => ?_, fun k hk hl => ?_, hH.symm, hD⟩
 · show upd s.t (a + i) (vl i) k = _
   unfold upd
   rw [if_neg (by omega)]
   exact h.t0 k hk
 · show upd s.t (a + i) (vl i) (a + k) = _
   unfold upd
   by_cases e : k = i
   · subst e; rw [if_pos rfl]
   · rw [if_neg (by omega)]
     exact h.val k hk (by simpa [e] using hl)
theorem AnyI.fin (h : AnyI a n vl hp D t0 l s) (i : Nat) (hi : n ≤ i) {H' : List (List AVal)} (hH : hp (fun j => if j = i then true else l j) = H') (hD : D fun j => if j = i then true else l j) : AnyI a n vl hp D t0 (fun j => if j = i then true else l j) ⟨s.t, H'⟩ := by
 refine ⟨h.t0, fun k hk hl => ?_, hH.symm, hD⟩
 have e : ¬ k = i := by omega
 exact h.val k hk (by simpa [e] using hl)
end Go.Proofs.Ythonenmafbpbkaa

/- flood.Spread, by the program. -/
namespace Go.Proofs.Ythonenmafbpbkaa
open Go Go.Am
set_option maxHeartbeats 16000000 in
set_option maxRecDepth 10000 in
theorem r11 (l : List Ifs) (hne : l ≠ []) (hl : l.length * 120 ≤ 140737488351232) (ok : ∀ s ∈ l, okIf s) (asc : ∀ s ∈ l, ∀ n ∈ s.Nb, ascH n.Una) (areas : List Int) (har : areas.length < 140737488355328) (fr snd : Int) (h : Hdr) (now : Int) (hnow : 0 ≤ now ∧ now ≤ 1099511627776) :
   CFun Try.prog 11 [.sl 15 (l.map encIf) .sh, .sl 1 (areas.map encW) .sh, .int .i64 fr, .int .u32 snd, encH h, .int .i64 now] [] (.tup [.sl 15 ((sprL areas fr snd h now 0 l).1.map encIf) .sh, .sl 1 ((sprL areas fr snd h now 0 l).2.map fun i => .int .i64 (i : Nat)) .sh]) [] := by
 refine cfunD (Q := fun y _ => y = _) _ (CFunP.intro (n := 157) (rs := [.tmp 12, .tmp 13]) Try.func11 rfl (by kernel_rfl) rfl rfl (by simp) (by simp) ?_) (fun _ _ h => h) (by simp [noid, noid0]) rfl
 obtain ⟨L0, hL0⟩ : ∃ L0 : List (Nat × List AVal), L0 = [(0, [.int .i64 fr]), (1, [.int .u32 snd]), (2, cellsH h), (3, [.int .i64 now])] := ⟨_, rfl⟩
 obtain ⟨n, hn⟩ : ∃ n, n = l.length := ⟨_, rfl⟩
 refine SWp_seq (fun s => s.t 0 = .sl 15 (l.map encIf) .sh ∧ s.t 1 = .sl 1 (areas.map encW) .sh ∧ s.t 8 = .ptr 0 0 ∧ s.t 9 = .ptr 1 0 ∧ s.t 10 = .ptr 2 0 ∧ s.t 11 = .ptr 3 0 ∧ s.H = [[.int .i64 fr], [.int .u32 snd], cellsH h, [.int .i64 now]]) (awp_sound (tr := []) mixed _ _ _ (by kernel_rfl) ?_) (fun _ => .inr trivial) ?_
 · simp
 rintro ⟨t, H⟩ ⟨h0, h1, h8, h9, h10, h11, hH⟩
 simp only at h0 h1 h8 h9 h10 h11 hH
 subst hH
 refine SWp_seq (fun s => s.t 1 = .sl 1 (areas.map encW) .sh ∧ s.t 8 = .ptr 0 0 ∧ s.t 9 = .ptr 1 0 ∧ s.t 10 = .ptr 2 0 ∧ s.t 11 = .ptr 3 0 ∧ s.t 14 = .osl 4 0 n (some n) 15 ∧ ∃ T, T.map erI = l ∧ Holds s.H (L0 ++ (4, outC T) :: ownT T)) (SWp_call3 (tr := []) (by kernel_rfl) rfl rfl rfl ?_) (fun _ => .inr trivial) ?_
 · have k37 := r37 l hne hl ok [[.int .i64 fr], [.int .u32 snd], cellsH h, [.int .i64 now]] L0 (by
     rw [hL0]
     refine ⟨by simp, ?_⟩
     intro p hp
     simp only [List.mem_cons, List.not_mem_nil, or_false] at hp
     rcases hp with rfl | rfl | rfl | rfl <;> rfl)
   simp [h0]
   refine ⟨37, [], [], ⟨rfl, rfl, rfl⟩, _, by simpa [cargs] using k37, ?_⟩
   rintro x H' ⟨rfl, T, hT, hHo⟩
   simp [h1, h8, h9, h10, h11]
   exact ⟨by simp [hn], T, hT, by simpa using hHo⟩
 rintro ⟨t, H⟩ ⟨h1, h8, h9, h10, h11, h14, T0, hT0, hHo⟩
 simp only at h1 h8 h9 h10 h11 h14 hHo
 refine awp_sound (tr := [150, 200104, 600017]) mixed _ _ _ (by kernel_rfl) ?_
 simp [h14]
 obtain ⟨ans, hans⟩ : ∃ ans, ans = sprL areas fr snd h now := ⟨_, rfl⟩
 rw [← hans]
 refine LoopK.introP (tr := [150, 200104, 600017]) mixed (by kernel_rfl) (fun μ s => ∃ (i : Nat) (Pr R : List IfI) (sent : List Nat), μ = n - i ∧ i ≤ n ∧ Pr.length = i ∧ R.map erI = l.drop i ∧ sent.length ≤ i ∧
   (ans 0 l).1 = Pr.map erI ++ (ans i (l.drop i)).1 ∧ (ans 0 l).2 = sent ++ (ans i (l.drop i)).2 ∧
   s.t 1 = .sl 1 (areas.map encW) .sh ∧ s.t 8 = .ptr 0 0 ∧ s.t 9 = .ptr 1 0 ∧ s.t 10 = .ptr 2 0 ∧ s.t 11 = .ptr 3 0 ∧ s.t 14 = .osl 4 0 n (some n) 15 ∧ s.t 15 = .sl 1 (sent.map fun i => .int .i64 (i : Nat)) .own ∧ s.t 26 = .int .i64 n ∧ s.t 27 = .int .i64 i ∧
   Holds s.H (L0 ++ (4, outC (Pr ++ R)) :: ownT (Pr ++ R))) n (simSlot 15 (.sl 1 [] .own) (by omega) (by simp [LeV, LeS])) ?_ ?_
 · refine ⟨0, [], T0, [], rfl, Nat.zero_le _, rfl, hT0, Nat.le_refl _, by simp, by simp, by simp [h1], by simp [h8], by simp [h9], by simp [h10], by simp [h11], by simp [h14], by simp, by simp, by simp, by simpa using hHo⟩
 clear hHo h1 h8 h9 h10 h11 h14
 rintro μ ⟨t, H⟩ ⟨i, Pr, R, sent, rfl, hin, hPl, hR, hsl, ha1, ha2, h1, h8, h9, h10, h11, h14, h15, h26, h27, hH⟩
 simp only at h1 h8 h9 h10 h11 h14 h15 h26 h27 hH
 by_cases hi : i < n
 case neg =>
   have hin : i = n := by omega
   subst hin
   have hR0 : R = [] := by
     have : R.map erI = [] := by rw [hR, hn, List.drop_length]
     simpa using this
   have hne2 : Pr ++ R ≠ [] := by
     intro e
     have := congrArg List.length e
     simp [hPl] at this
     have h3 := List.length_pos_iff.2 hne
     omega
   have hz : ans i (l.drop i) = ([], []) := by rw [hn, List.drop_length, hans]; rfl
   rw [hz] at ha1 ha2
   simp only [List.append_nil] at ha1 ha2
   rw [hR0] at hH hne2
   simp only [List.append_nil] at hH hne2
   simp [h26, h27, h14, h15, retP]
   have key : ∀ t' : Nat → AVal, t' 12 = .osl 4 0 i (some i) 15 → ∃ H', Sim 157 0 ⟨t', H⟩ ⟨upd t' 12 (.sl 15 ((Pr.map erI).map encIf) .sh), H'⟩ := fun t' ht => frz_out (s := ⟨t', H⟩) hne2 hH (by simpa [hPl] using ht)
   refine ⟨_, (key _ ?_).choose_spec, ?_⟩
   · simp
   · simp [ha1, ha2]
 have hiI : (i : Int) < n := by omega
 obtain ⟨s, hs, hd⟩ := get_drop (l := l) (i := i) (by omega)
 rw [hd] at hR ha1 ha2
 obtain ⟨r, R', rfl⟩ : ∃ r R', R = r :: R' := by
   cases R with
   | nil => simp at hR
   | cons r R' => exact ⟨r, R', rfl⟩
 simp only [List.map_cons, List.cons.injEq] at hR
 obtain ⟨hrs, hR'⟩ := hR
 have oks := ok s (List.mem_of_getElem? hs)
 have ascs := asc s (List.mem_of_getElem? hs)
 have w1 : IntKind.i64.wrap ((i : Int) + 1) = i + 1 := wrap_in (by omega)
 have hA : (outC Pr).length = i * 15 := by rw [outC_len, hPl]
 have hcons : ans i (s :: l.drop (i + 1)) = ((sprI areas (decide ((i : Int) = fr)) snd h now s).1 :: (ans (i + 1) (l.drop (i + 1))).1, if (sprI areas (decide ((i : Int) = fr)) snd h now s).2 = true then i :: (ans (i + 1) (l.drop (i + 1))).2 else (ans (i + 1) (l.drop (i + 1))).2) := by
   rw [hans]; rfl
 rw [hcons] at ha1 ha2
 simp only at ha1 ha2
 have hO : outC (Pr ++ r :: R') = outC Pr ++ (ceII r ++ outC R') := by simp [outC]
 obtain ⟨Oc, hOc⟩ : ∃ Oc, Oc = outC Pr ++ (ceII r ++ outC R') := ⟨_, rfl⟩
 rw [hO, ← hOc] at hH
 have hget : ∀ j, j < 15 → Oc[i * 15 + j]? = (ceII r)[j]? := fun j hj => by rw [hOc, mid_get hA (by simpa [ceII] using hj)]
 have o0 := hget 0 (by omega)
 have o3 := hget 4 (by omega)
 have o9 := hget 9 (by omega)
 have o10 := hget 10 (by omega)
 have o11 := hget 11 (by omega)
 have o14 := hget 14 (by omega)
 simp [ceII] at o0 o3 o9 o10 o11 o14
 have k38 := fun H => (r38 areas har r.s.C4).up' H (by simp [noid, noid0]) rfl
 obtain ⟨m4, _, _⟩ := hH.mid
 have l4 := (List.getElem?_eq_some_iff.1 m4).1
 have M4 : ∀ Z, (H ++ Z)[4]? = some Oc := fun Z => by rw [List.getElem?_append_left l4]; exact m4
 have hskip : outB areas s = true → ∀ (t' : Nat → AVal) (H' : List (List AVal)), t' 1 = .sl 1 (areas.map encW) .sh ∧ t' 8 = .ptr 0 0 ∧ t' 9 = .ptr 1 0 ∧ t' 10 = .ptr 2 0 ∧ t' 11 = .ptr 3 0 ∧ t' 14 = .osl 4 0 n (some n) 15 ∧ t' 15 = .sl 1 (sent.map fun i => .int .i64 (i : Nat)) .own ∧ t' 26 = .int .i64 n ∧ t' 27 = .int .i64 (i + 1) →
     Holds H' (L0 ++ (4, Oc) :: ownT (Pr ++ r :: R')) → ∃ (i1 : Nat) (Pr1 R1 : List IfI) (sent1 : List Nat), n - (i + 1) = n - i1 ∧ i1 ≤ n ∧ Pr1.length = i1 ∧ R1.map erI = l.drop i1 ∧ sent1.length ≤ i1 ∧
   (ans 0 l).1 = Pr1.map erI ++ (ans i1 (l.drop i1)).1 ∧ (ans 0 l).2 = sent1 ++ (ans i1 (l.drop i1)).2 ∧
   t' 1 = .sl 1 (areas.map encW) .sh ∧ t' 8 = .ptr 0 0 ∧ t' 9 = .ptr 1 0 ∧ t' 10 = .ptr 2 0 ∧ t' 11 = .ptr 3 0 ∧ t' 14 = .osl 4 0 n (some n) 15 ∧ t' 15 = .sl 1 (sent1.map fun i => .int .i64 (i : Nat)) .own ∧ t' 26 = .int .i64 n ∧ t' 27 = .int .i64 i1 ∧
   Holds H' (L0 ++ (4, outC (Pr1 ++ R1)) :: ownT (Pr1 ++ R1)) := by
   intro ho t' H' ht hh
   have e1 : sprI areas (decide ((i : Int) = fr)) snd h now s = (s, false) := by unfold sprI; rw [if_pos ho]
   rw [e1] at ha1 ha2
   refine ⟨i + 1, Pr ++ [r], R', sent, rfl, hi, by simp [hPl], hR', by omega, ?_, ?_, ?_⟩
   · rw [ha1, List.map_append, ← hrs]; simp
   · rw [ha2]; simp
   · have e2 : Pr ++ [r] ++ R' = Pr ++ r :: R' := by simp
     rw [e2, hO, ← hOc]
     obtain ⟨q1, q2, q3, q4, q5, q6, q7, q8, q9⟩ := ht
     exact ⟨q1, q2, q3, q4, q5, q6, q7, q8, by simpa using q9, hh⟩
 have hout : outB areas s = (!r.s.Up || (decide (r.s.Kind = 3) || !(areas.any fun y => decide (r.s.C4 = y)))) := by rw [← hrs]; rfl
 generalize hQ : LoopPostP _ _ _ _ _ = Q
 cases hUp : r.s.Up with
 | false =>
   rw [hUp] at o9
   simp [h1, h8, h9, h10, h11, h14, h15, h26, h27, hi, hiI, M4, m4, o9, w1]
   rw [← hQ, LoopPostP_normal]
   exact ⟨_, n - (i + 1), Sim.refl, by omega, hskip (by rw [hout, hUp]; rfl) _ _ (by simp [h1, h8, h9, h10, h11, h14, h15, h26, w1]) (hH.snoc _)⟩
 | true =>
   rw [hUp] at o9
   by_cases hK : r.s.Kind = 3
   · rw [hK] at o0
     simp [h1, h8, h9, h10, h11, h14, h15, h26, h27, hi, hiI, M4, m4, o9, o0, w1, o3]
     rw [← hQ, LoopPostP_normal]
     exact ⟨_, n - (i + 1), Sim.refl, by omega, hskip (by rw [hout, hUp, hK]; rfl) _ _ (by simp [h1, h8, h9, h10, h11, h14, h15, h26, w1]) (hH.snoc _)⟩
   have hb3 : (r.s.Kind == 3) = false := by simpa using hK
   cases hin2 : (areas.any fun y => decide (r.s.C4 = y)) with
   | false =>
     rw [hin2] at k38
     simp [h1, h8, h9, h10, h11, h14, h15, h26, h27, hi, hiI, M4, m4, o9, o0, hK, hb3, w1, o3]
     refine ⟨_, _, .inl (by simpa using k38 _), by simp, ?_⟩
     simp [h1, h8, h9, h10, h11, h14, h15, h26, h27, hi, hiI, M4, m4, o9, o0, hK, hb3, w1, o3]
     rw [← hQ, LoopPostP_normal]
     exact ⟨_, n - (i + 1), Sim.refl, by omega, hskip (by rw [hout, hUp, hin2]; simp) _ _ (by simp [h1, h8, h9, h10, h11, h14, h15, h26, w1]) (hH.snoc _)⟩
   | true =>
     rw [hin2] at k38
     have hob : outB areas s = false := by rw [hout, hUp, hin2, decide_eq_false hK]; rfl
     have k39 := r39 4 (i * 15) (H ++ [[.int .i64 i]])
     simp [h1, h8, h9, h10, h11, h14, h15, h26, h27, hi, hiI, M4, m4, o9, o0, hK, hb3, w1, o3]
     refine ⟨_, _, .inl (by simpa using k38 _), by simp, ?_⟩
     simp [h1, h8, h9, h10, h11, h14, h15, h26, h27, hi, hiI, M4, m4, o9, o0, hK, hb3, w1, o3]
     refine ⟨_, _, .inl (by simpa using k39), by simp, ?_⟩
     simp
     obtain ⟨eI, heI⟩ : ∃ eI, eI = H.length := ⟨_, rfl⟩
     obtain ⟨K1, hK1⟩ : ∃ K1, K1 = L0 ++ (4, Oc) :: ownT Pr := ⟨_, rfl⟩
     obtain ⟨K2, hK2⟩ : ∃ K2, K2 = ownT R' ++ [(eI, [.int .i64 i]), (eI + 1, [.ptr 4 (i * 15)])] := ⟨_, rfl⟩
     have hold : Holds (H ++ [[.int .i64 i], [.ptr 4 (i * 15)]]) (K1 ++ (r.b, nbC r.Nb) :: (ownN r.Nb ++ K2)) := by
       have g1 := hH.two (Z := [[.int .i64 i], [.ptr 4 (i * 15)]]) (i := 0) (j := 1) rfl rfl (by omega)
       rw [hK1, hK2, heI]
       simpa [ownT, ownI] using g1
     obtain ⟨HA, hHA⟩ : ∃ HA, HA = H ++ [[AVal.int .i64 i], [.ptr 4 (i * 15)]] := ⟨_, rfl⟩
     have hHAl : HA.length = eI + 2 := by rw [hHA, heI]; simp
     rw [← hHA] at hold ⊢
     rw [← heI]
     have hsnb : s.Nb = r.Nb.map (·.n) := by rw [← hrs]; rfl
     have hnb9 : r.Nb.length < 9223372036854775807 := by
       have := oks.nb
       rw [hsnb, List.length_map] at this
       omega
     have hL2 : (2, cellsH h) ∈ K1 := by rw [hK1, hL0]; simp
     have hF : ∀ (H' : List (List AVal)) (N' : List NbI), Holds H' (K1 ++ (r.b, nbC N') :: (ownN N' ++ K2)) → r.b < H'.length ∧ H'[eI + 1]? = some [.ptr 4 (i * 15)] ∧ ∃ cs cap, H'[4]? = some cs ∧ cs[i * 15 + 14]? = some (.osl r.b 0 r.Nb.length cap 15) := by
       intro H' N' hh
       refine ⟨hh.lt (c := nbC N') (by simp), hh.get (by rw [hK2]; simp), Oc, none, hh.get (by rw [hK1]; simp), o14⟩
     refine RangeK.introW (tr := [150, 200104, 600017]) mixed (by kernel_rfl) (by kernel_rfl) rfl rfl (p := 58) (by simp) iter78 ⟨_, Try.func78, rfl, rfl⟩ (idb := eI + 1) (len := r.Nb.length) hnb9 (by simp) (fun j => .ptr r.b (0 + j * 15)) _ (by simp [hHAl]) (SrcOk.own (id := 4) (off := i * 15) (c := 14) (k := 15))
       (ι := List (List AVal)) id (fun j H' => HA.length ≤ H'.length ∧ ∃ N1, N1.length = j ∧ N1.map (·.n) = (r.Nb.take j).map (fun x => remN x.n h) ∧ Holds H' (K1 ++ (r.b, nbC (N1 ++ r.Nb.drop j)) :: (ownN (N1 ++ r.Nb.drop j) ++ K2))) HA ⟨Nat.le_refl _, [], rfl, rfl, by simpa using hold⟩ (LeW.refl _) ?_ ?_ ?_
     · rintro j H' ⟨g1, N1, g2, g3, g4⟩
       exact ⟨g1, hF H' _ g4⟩
     · rintro j H' ⟨g1, N1, g2, g3, g4⟩ hj
       obtain ⟨x, hx, hdx⟩ := get_drop (l := r.Nb) (i := j) hj
       rw [hdx] at g4
       have hxm : x.n ∈ s.Nb := by rw [hsnb]; exact List.mem_map.2 ⟨x, List.mem_of_getElem? hx, rfl⟩
       have okx := (oks.nbs x.n hxm).una
       obtain ⟨H3, k40, q1, q2⟩ := rem_step h g4 (by omega)
       rw [g2] at k40
       have m2 := g4.get (id := 2) (c := cellsH h) (List.mem_append.2 (.inl hL2))
       simp [asgPost, h10, m2]
       refine ⟨_, _, .inl (by simpa using k40), by simp, ?_⟩
       simp only [awpOps_nil, blkK_normal]
       refine ⟨H3, ⟨by omega, N1 ++ [⟨remN x.n h, x.a, x.u⟩], by simp [g2], ?_, ?_⟩, LeW.refl _⟩
       · rw [List.map_append, g3, List.take_add_one, List.getElem?_map, hx, List.map_take]
         simp
       · simpa using q1
     · rintro H' ⟨g1, N1, g2, g3, g4⟩
       simp only [id] at g1 g4 ⊢
       rw [List.drop_length, List.append_nil] at g4
       rw [List.take_length] at g3
       have m0 := g4.get (id := 0) (c := [.int .i64 fr]) (List.mem_append.2 (.inl (by rw [hK1, hL0]; simp)))
       have m1 := g4.get (id := 1) (c := [.int .u32 snd]) (List.mem_append.2 (.inl (by rw [hK1, hL0]; simp)))
       have m2 := g4.get (id := 2) (c := cellsH h) (List.mem_append.2 (.inl hL2))
       have m3 := g4.get (id := 3) (c := [.int .i64 now]) (List.mem_append.2 (.inl (by rw [hK1, hL0]; simp)))
       have m4' := g4.get (id := 4) (c := Oc) (List.mem_append.2 (.inl (by rw [hK1]; simp)))
       have mI := g4.get (id := eI) (c := [.int .i64 i]) (by rw [hK2]; simp)
       generalize hs9 : (ASt.mk _ H') = s9
       have f1 : s9.t 1 = .sl 1 (areas.map encW) .sh := by rw [← hs9]; simp [h1]
       have f8 : s9.t 8 = .ptr 0 0 := by rw [← hs9]; simp [h8]
       have f9 : s9.t 9 = .ptr 1 0 := by rw [← hs9]; simp [h9]
       have f10 : s9.t 10 = .ptr 2 0 := by rw [← hs9]; simp [h10]
       have f11 : s9.t 11 = .ptr 3 0 := by rw [← hs9]; simp [h11]
       have f14 : s9.t 14 = .osl 4 0 n (some n) 15 := by rw [← hs9]; simp [h14]
       have f15 : s9.t 15 = .sl 1 (sent.map fun i => .int .i64 (i : Nat)) .own := by rw [← hs9]; simp [h15]
       have f16 : s9.t 16 = .ptr eI 0 := by rw [← hs9]; simp
       have f17 : s9.t 17 = .ptr 4 (i * 15) := by rw [← hs9]; simp
       have f26 : s9.t 26 = .int .i64 n := by rw [← hs9]; simp [h26]
       have f27 : s9.t 27 = .int .i64 i := by rw [← hs9]; simp [h27]
       have fH : s9.H = H' := by rw [← hs9]
       clear hs9
       obtain ⟨t9, H9⟩ := s9
       simp only at f1 f8 f9 f10 f11 f14 f15 f16 f17 f26 f27 fH
       subst fH
       simp only [blkK_normal, thenK_normal, awp_seq]
       generalize hK : awp Try.prog _ _ _ (.seq (.region 12 _ _) _) _ = K
       have hskip2 : skipB (decide ((i : Int) = fr)) snd s = true → ∀ t' : Nat → AVal, t' 1 = .sl 1 (areas.map encW) .sh ∧ t' 8 = .ptr 0 0 ∧ t' 9 = .ptr 1 0 ∧ t' 10 = .ptr 2 0 ∧ t' 11 = .ptr 3 0 ∧ t' 14 = .osl 4 0 n (some n) 15 ∧ t' 15 = .sl 1 (sent.map fun i => .int .i64 (i : Nat)) .own ∧ t' 26 = .int .i64 n ∧ t' 27 = .int .i64 (i + 1) → Q .normal ⟨t', H9⟩ := by
         intro hsk t' ht
         rw [← hQ, LoopPostP_normal]
         have e1 : sprI areas (decide ((i : Int) = fr)) snd h now s = ({ s with Nb := s.Nb.map (remN · h) }, false) := by
           unfold sprI
           rw [if_neg (by rw [hob]; simp), if_pos hsk]
         rw [e1] at ha1 ha2
         refine ⟨_, n - (i + 1), Sim.refl, by omega, i + 1, Pr ++ [⟨r.s, r.b, N1⟩], R', sent, rfl, hi, by simp [hPl], hR', by omega, ?_, ?_, ?_⟩
         · rw [ha1, List.map_append, List.append_assoc]
           congr 1
           have e2 : erI ⟨r.s, r.b, N1⟩ = { s with Nb := s.Nb.map (remN · h) } := by
             rw [← hrs]
             simp only [erI]
             congr 1
             rw [g3, List.map_map]
             rfl
           rw [← e2]; rfl
         · rw [ha2]; simp
         · obtain ⟨q1, q2, q3, q4, q5, q6, q7, q8, q9⟩ := ht
           refine ⟨q1, q2, q3, q4, q5, q6, q7, q8, by simpa using q9, ?_⟩
           have e3 : outC (Pr ++ [⟨r.s, r.b, N1⟩] ++ R') = Oc := by
             rw [hOc]
             simp [outC, ceII, g2]
           rw [e3]
           refine g4.sub ?_
           rw [hK1, hK2]
           simp [ownT, ownI]
       have hcont : skipB (decide ((i : Int) = fr)) snd s = false → ∀ t9 : Nat → AVal, t9 1 = .sl 1 (areas.map encW) .sh → t9 8 = .ptr 0 0 → t9 9 = .ptr 1 0 → t9 10 = .ptr 2 0 → t9 11 = .ptr 3 0 → t9 14 = .osl 4 0 n (some n) 15 → t9 15 = .sl 1 (sent.map fun i => .int .i64 (i : Nat)) .own → t9 16 = .ptr eI 0 → t9 17 = .ptr 4 (i * 15) → t9 26 = .int .i64 n → t9 27 = .int .i64 i → K ⟨t9, H9⟩ := by
         intro hskf ta f1 f8 f9 f10 f11 f14 f15 f16 f17 f26 f27
         rw [← hK]
         have k39b := r39 4 (i * 15) (H9 ++ [[.bool false]])
         simp [f17]
         refine ⟨_, _, .inl (by simpa using k39b), by simp, ?_⟩
         simp
         obtain ⟨eS, heS⟩ : ∃ eS, eS = H9.length := ⟨_, rfl⟩
         obtain ⟨HB, hHB⟩ : ∃ HB, HB = H9 ++ [[AVal.bool false], [.ptr 4 (i * 15)]] := ⟨_, rfl⟩
         have hHBl : HB.length = eS + 2 := by rw [hHB, heS]; simp
         have holdB : Holds HB (K1 ++ (r.b, nbC N1) :: (ownN N1 ++ (K2 ++ [(eS, [.bool false]), (eS + 1, [.ptr 4 (i * 15)])]))) := by
           have g1 := g4.two (Z := [[.bool false], [.ptr 4 (i * 15)]]) (i := 0) (j := 1) rfl rfl (by omega)
           rw [hHB, heS]
           simpa using g1
         rw [← hHB, ← heS]
         obtain ⟨gv, hgv⟩ : ∃ gv, gv = givP (decide ((i : Int) = fr)) snd h now := ⟨_, rfl⟩
         have hspr : sprI areas (decide ((i : Int) = fr)) snd h now s = ({ s with Nb := s.Nb.map fun n => (gv (remN n h)).1 }, s.Nb.any fun n => (gv (remN n h)).2) := by
           unfold sprI
           rw [if_neg (by rw [hob]; simp), if_neg (by rw [hskf]; simp), hgv]
         have hF2 : ∀ (H' : List (List AVal)) (N' : List NbI) (bb : Bool), Holds H' (K1 ++ (r.b, nbC N') :: (ownN N' ++ (K2 ++ [(eS, [.bool bb]), (eS + 1, [.ptr 4 (i * 15)])]))) → r.b < H'.length ∧ H'[eS + 1]? = some [.ptr 4 (i * 15)] ∧ ∃ cs cap, H'[4]? = some cs ∧ cs[i * 15 + 14]? = some (.osl r.b 0 r.Nb.length cap 15) := by
           intro H' N' bb hh
           refine ⟨hh.lt (c := nbC N') (by simp), hh.get (by simp), Oc, none, hh.get (by rw [hK1]; simp), o14⟩
         have mem1 : ∀ x ∈ N1, ∃ y ∈ s.Nb, x.n = remN y h := by
           intro x hx
           have : x.n ∈ N1.map (·.n) := List.mem_map.2 ⟨x, hx, rfl⟩
           rw [g3] at this
           obtain ⟨z, hz, e⟩ := List.mem_map.1 this
           exact ⟨z.n, by rw [hsnb]; exact List.mem_map.2 ⟨z, hz, rfl⟩, e.symm⟩
         have asc1 : ∀ x ∈ N1, ascH x.n.Una := by
           intro x hx
           obtain ⟨y, hy, e⟩ := mem1 x hx
           rw [e]
           exact (ascs y hy).filter _
         have len1 : ∀ x ∈ N1, x.n.Req.length * 56 ≤ 140737488351232 ∧ (x.n.Una.length + 1) * 56 ≤ 140737488355328 := by
           intro x hx
           obtain ⟨y, hy, e⟩ := mem1 x hx
           have o1 := (oks.nbs y hy).req
           have o2 := (oks.nbs y hy).una
           have o3 : (remN y h).Una.length ≤ y.Una.length := List.length_filter_le _ _
           rw [e]
           refine ⟨?_, ?_⟩
           · show y.Req.length * 56 ≤ _
             omega
           · omega
         refine RangeK.introW (tr := [150, 200104, 600017]) mixed (by kernel_rfl) (by kernel_rfl) rfl rfl (p := 95) (by simp) iter78 ⟨_, Try.func78, rfl, rfl⟩ (idb := eS + 1) (len := r.Nb.length) hnb9 (by simp) (fun j => .ptr r.b (0 + j * 15)) _ (by simp [hHBl]) (SrcOk.own (id := 4) (off := i * 15) (c := 14) (k := 15))
           (ι := List (List AVal)) id (fun j H' => HB.length ≤ H'.length ∧ ∃ N2, N2.length = j ∧ N2.map (·.n) = (N1.take j).map (fun x => (gv x.n).1) ∧ Holds H' (K1 ++ (r.b, nbC (N2 ++ N1.drop j)) :: (ownN (N2 ++ N1.drop j) ++ (K2 ++ [(eS, [.bool ((N1.take j).any fun x => (gv x.n).2)]), (eS + 1, [.ptr 4 (i * 15)])])))) HB ⟨Nat.le_refl _, [], rfl, rfl, by simpa using holdB⟩ (LeW.refl _) ?_ ?_ ?_
         · rintro j H' ⟨g1, N2, g2, g3, g4⟩
           exact ⟨g1, hF2 H' _ _ g4⟩
         · rintro j H' ⟨p1, N2, p2, p3, p4⟩ hj
           obtain ⟨x, hx, hdx⟩ := get_drop (l := N1) (i := j) (by omega)
           rw [hdx] at p4
           obtain ⟨bb, hbb⟩ : ∃ bb, bb = (N1.take j).any fun x => (gv x.n).2 := ⟨_, rfl⟩
           rw [← hbb] at p4
           obtain ⟨hb, hL, hT, ha, hu, hab, hub⟩ := at_nb p4
           obtain ⟨Nc, hNc⟩ : ∃ Nc, Nc = nbC N2 ++ (ceNI x ++ nbC (N1.drop (j + 1))) := ⟨_, rfl⟩
           have hget2 : ∀ k, k < 15 → Nc[j * 15 + k]? = (ceNI x)[k]? := fun k hk => by rw [hNc]; exact mid_get (by rw [nbC_len, p2]) (by simpa [ceNI] using hk)
           have n0 := hget2 0 (by omega)
           have n5 := hget2 5 (by omega)
           simp [ceNI] at n0 n5
           have m0 := p4.get (id := 0) (c := [.int .i64 fr]) (List.mem_append.2 (.inl (by rw [hK1, hL0]; simp)))
           have m1 := p4.get (id := 1) (c := [.int .u32 snd]) (List.mem_append.2 (.inl (by rw [hK1, hL0]; simp)))
           have m2 := p4.get (id := 2) (c := cellsH h) (List.mem_append.2 (.inl hL2))
           have m3 := p4.get (id := 3) (c := [.int .i64 now]) (List.mem_append.2 (.inl (by rw [hK1, hL0]; simp)))
           have mI := p4.get (id := eI) (c := [.int .i64 i]) (by rw [hK2]; simp)
           have mS := p4.get (id := eS) (c := [.bool bb]) (by simp)
           rw [← hNc] at hb
           have tkH : List.take H'.length H' = H' := List.take_length
           generalize hRP : roundPostW _ _ _ _ _ _ = RP
           have hnx : ∀ (t5 : Nat → AVal) (H5 : List (List AVal)) (x' : NbI), x'.n = (gv x.n).1 → HB.length ≤ H5.length → Holds H5 (K1 ++ (r.b, nbC (N2 ++ x' :: N1.drop (j + 1))) :: (ownN (N2 ++ x' :: N1.drop (j + 1)) ++ (K2 ++ [(eS, [.bool (bb || (gv x.n).2)]), (eS + 1, [.ptr 4 (i * 15)])]))) → RP .normal ⟨t5, H5⟩ := by
             intro t5 H5 x' e1 e2 e3
             rw [← hRP]
             refine ⟨H5, ⟨e2, N2 ++ [x'], by simp [p2], ?_, ?_⟩, LeW.refl _⟩
             · rw [List.map_append, p3, List.take_add_one, hx]
               simp [e1]
             · rw [List.take_add_one, hx, List.any_append, ← hbb]
               simpa using e3
           by_cases c1 : x.n.State < 4
           · have eg : gv x.n = (x.n, false) := by rw [hgv]; unfold givP; rw [if_pos c1]
             simp [asgPost, f8, f9, f10, f11, f16, hb, n5, c1, tkH]
             refine hnx _ _ x ?_ p1 ?_
             · rw [eg]
             · rw [eg]; simpa using p4
           obtain ⟨H3, k41, q1, q2⟩ := req_step h p4 (len1 x (List.mem_of_getElem? hx)).1
           rw [p2] at k41
           simp [asgPost, f8, f9, f10, f11, f16, hb, n5, c1, m2]
           refine ⟨_, _, .inl (by simpa using k41), by simp, ?_⟩
           cases hrq : (reqN x.n h).2 with
           | true =>
             have eg : gv x.n = ((reqN x.n h).1, false) := by rw [hgv]; unfold givP; rw [if_neg c1, if_pos hrq]
             simp [tkH]
             refine hnx _ H3 ⟨(reqN x.n h).1, x.a, x.u⟩ ?_ (by omega) ?_
             · rw [eg]
             · rw [eg]; simpa using q1
           | false =>
             obtain ⟨y, hy⟩ : ∃ y : NbI, y = ⟨(reqN x.n h).1, x.a, x.u⟩ := ⟨_, rfl⟩
             rw [← hy] at q1
             have yn : y.n = (reqN x.n h).1 := by rw [hy]
             obtain ⟨f1', -, -, -, -, -, -, -, -, -, -, f12⟩ := reqN_fields x.n h
             have yU : y.n.Una = x.n.Una := by rw [yn, f12]
             have yR : y.n.Router = x.n.Router := by rw [yn, f1']
             have yA := asc1 x (List.mem_of_getElem? hx)
             have yL := (len1 x (List.mem_of_getElem? hx)).2
             rw [← yU] at yA yL
             obtain ⟨hb3, hL3, hT3, ha3, hu3, hab3, hub3⟩ := at_nb q1
             obtain ⟨N3, hN3⟩ : ∃ N3, N3 = nbC N2 ++ (ceNI y ++ nbC (N1.drop (j + 1))) := ⟨_, rfl⟩
             have hget3 : ∀ k, k < 15 → N3[j * 15 + k]? = (ceNI y)[k]? := fun k hk => by rw [hN3]; exact mid_get (by rw [nbC_len, p2]) (by simpa [ceNI] using hk)
             have y0 := hget3 0 (by omega)
             have y13 := hget3 13 (by omega)
             have y14 := hget3 14 (by omega)
             simp [ceNI] at y0 y13 y14
             rw [← hN3] at hb3 hL3 hT3
             have s0 := q1.get (id := 0) (c := [.int .i64 fr]) (List.mem_append.2 (.inl (by rw [hK1, hL0]; simp)))
             have s1 := q1.get (id := 1) (c := [.int .u32 snd]) (List.mem_append.2 (.inl (by rw [hK1, hL0]; simp)))
             have s2 := q1.get (id := 2) (c := cellsH h) (List.mem_append.2 (.inl hL2))
             have s3 := q1.get (id := 3) (c := [.int .i64 now]) (List.mem_append.2 (.inl (by rw [hK1, hL0]; simp)))
             have sI := q1.get (id := eI) (c := [.int .i64 i]) (by rw [hK2]; simp)
             have sS := q1.get (id := eS) (c := [.bool bb]) (by simp)
             have tk3 : List.take H3.length H3 = H3 := List.take_length
             have tg : ∀ {k : Nat} {c c' : List AVal}, H'[k]? = some c' → H3[k]? = some c → (List.take H'.length H3)[k]? = some c := fun {k c c'} e1 e2 => by
               rw [List.getElem?_take, if_pos (List.getElem?_eq_some_iff.1 e1).1, e2]
             have t0 := tg m0 s0
             have t1 := tg m1 s1
             have tI := tg mI sI
             have tb3 := tg hb hb3
             generalize hCC : awp Try.prog _ _ _ (.seq (.region 16 _ _) _) _ = CC
             have hgo : ∀ tb : Nat → AVal, ¬ ((i : Int) = fr ∧ x.n.Router = snd) → tb 8 = .ptr 0 0 → tb 9 = .ptr 1 0 → tb 10 = .ptr 2 0 → tb 11 = .ptr 3 0 → tb 16 = .ptr eI 0 → tb 19 = .ptr eS 0 → tb 20 = .ptr r.b (j * 15) → CC ⟨tb, H3⟩ := by
               intro tb hnot f8 f9 f10 f11 f16 f19 f20
               have eg : gv x.n = (insN y.n h now, true) := by
                 rw [hgv, yn]; unfold givP; rw [if_neg c1, if_neg (by rw [hrq]; simp), if_neg (by simpa using hnot)]
               rw [← hCC]
               have k42 := bs_H y.n.Una (by omega) yA h hu3
               simp [f8, f9, f10, f11, f16, f20, hb3, y13, s2]
               refine ⟨_, _, .inl (by simpa using k42), by simp, ?_⟩
               simp [f8, f9, f10, f11, f16, f20, hb3, y13, s2]
               obtain ⟨W, hW⟩ : ∃ W, W = insL y.n.Una (posH y.n.Una (keyH h)) h := ⟨_, rfl⟩
               have posl := posH_le y.n.Una (keyH h)
               have hWl : W.length = y.n.Una.length + 1 := by rw [hW]; exact insL_len posl
               have k44 := in_H y.n.Una (posH y.n.Una (keyH h)) (by omega) posl h hu3
               rw [← hW] at k44
               have hIS := ins_step W q1
               obtain ⟨x1, hx1⟩ : ∃ x1 : NbI, x1 = ⟨{ y.n with Una := W }, y.a, H3.length⟩ := ⟨_, rfl⟩
               rw [← hx1, ← hN3, p2, hWl] at hIS
               obtain ⟨hb5, hL5, hT5, ha5, hu5, hab5, hub5⟩ := at_nb hIS
               have rbl : r.b < H3.length := (List.getElem?_eq_some_iff.1 hb3).1
               obtain ⟨H4, hH4⟩ : ∃ H4, H4 = H3.set y.u [] ++ [rowU W] := ⟨_, rfl⟩
               rw [← hH4] at hIS hb5 ha5 hu5 k44
               have h4b : H4[r.b]? = some N3 := by
                 rw [hH4, List.getElem?_append_left (by simpa using rbl), List.getElem?_set_ne hub3, hb3]
               obtain ⟨H5, hH5⟩ : ∃ H5, H5 = H4.set r.b (N3.set (j * 15 + 13) (.osl H3.length 0 (y.n.Una.length + 1) none 7)) := ⟨_, rfl⟩
               rw [← hH5] at hIS hb5 ha5 hu5
               generalize hs0 : (ASt.mk _ H3) = s0
               have z8 : s0.t 8 = .ptr 0 0 := by rw [← hs0]; simp [f8]
               have z9 : s0.t 9 = .ptr 1 0 := by rw [← hs0]; simp [f9]
               have z10 : s0.t 10 = .ptr 2 0 := by rw [← hs0]; simp [f10]
               have z11 : s0.t 11 = .ptr 3 0 := by rw [← hs0]; simp [f11]
               have z19 : s0.t 19 = .ptr eS 0 := by rw [← hs0]; simp [f19]
               have z20 : s0.t 20 = .ptr r.b (j * 15) := by rw [← hs0]; simp [f20]
               have z21 : s0.t 21 = .int .i64 (posH y.n.Una (keyH h)) := by rw [← hs0]; simp
               have zH : s0.H = H3 := by rw [← hs0]
               clear hs0
               obtain ⟨vl, hvl⟩ : ∃ vl : Nat → AVal, vl = fun k => [.ptr r.b (j * 15), .ptr r.b (j * 15), .ptr r.b (j * 15), .ptr r.b (j * 15 + 13), .osl y.u 0 y.n.Una.length none 7, .int .i64 (posH y.n.Una (keyH h)), encH h, .sl 7 [encH h] .full, .osl H3.length 0 (y.n.Una.length + 1) none 7, .ptr r.b (j * 15), .ptr r.b (j * 15 + 13)].getD k .undef := ⟨_, rfl⟩
               obtain ⟨hp, hhp⟩ : ∃ hp : (Nat → Bool) → List (List AVal), hp = fun l => if l 11 = true then H5 else if l 8 = true then H4 else H3 := ⟨_, rfl⟩
               obtain ⟨D, hD⟩ : ∃ D : (Nat → Bool) → Prop, D = fun l => (l 8 = true → l 4 = true) ∧ (l 8 = true → l 7 = true) ∧ (l 7 = true → l 6 = true) ∧ (l 11 = true → l 8 = true) := ⟨_, rfl⟩
               refine AnyK_inv (AnyI 128 11 vl hp D s0.t) ?_ ?_ ?_ ?_
               · exact ⟨fun _ _ => rfl, fun k _ h => by simp at h, by rw [zH, hhp]; simp, by rw [hD]; simp⟩
               · intro l2 s i2 o hI ho hl hdep
                 have hi : i2 < 12 := by have := (Array.getElem?_eq_some_iff.1 ho).1; simpa using this
                 obtain ⟨d1, d2, d3, d4⟩ := (by have := hI.d; rw [hD] at this; exact this : (l2 8 = true → l2 4 = true) ∧ (l2 8 = true → l2 7 = true) ∧ (l2 7 = true → l2 6 = true) ∧ (l2 11 = true → l2 8 = true))
                 have t10 := (hI.t0 10 (by omega)).trans z10
                 have t20 := (hI.t0 20 (by omega)).trans z20
                 have t21 := (hI.t0 21 (by omega)).trans z21
                 have sH := hI.H
                 rw [hhp] at sH
                 simp only at sH
                 generalize hG : AnyI 128 11 vl hp D s0.t _ = GG
                 rcases (by omega : i2 = 0 ∨ i2 = 1 ∨ i2 = 2 ∨ i2 = 3 ∨ i2 = 4 ∨ i2 = 5 ∨ i2 = 6 ∨ i2 = 7 ∨ i2 = 8 ∨ i2 = 9 ∨ i2 = 10 ∨ i2 = 11) with rfl | rfl | rfl | rfl | rfl | rfl | rfl | rfl | rfl | rfl | rfl | rfl
                 all_goals
                   simp at ho
                   subst ho
                   simp [Region.binds] at hdep
                 · simp [t20]
                   rw [← hG]
                   exact hI.put 0 (by omega) rfl (by rw [hvl]; rfl) (by rw [hI.H, hhp]; simp) (by rw [hD]; simpa using ⟨d1, d2, d3, d4⟩)
                 · simp [t20]
                   rw [← hG]
                   exact hI.put 1 (by omega) rfl (by rw [hvl]; rfl) (by rw [hI.H, hhp]; simp) (by rw [hD]; simpa using ⟨d1, d2, d3, d4⟩)
                 · have v1 : s.t 129 = .ptr r.b (j * 15) := by have := hI.val 1 (by omega) hdep; rw [hvl] at this; exact this
                   simp [v1]
                   rw [← hG]
                   exact hI.put 2 (by omega) rfl (by rw [hvl]; rfl) (by rw [hI.H, hhp]; simp) (by rw [hD]; simpa using ⟨d1, d2, d3, d4⟩)
                 · have v1 : s.t 130 = .ptr r.b (j * 15) := by have := hI.val 2 (by omega) hdep; rw [hvl] at this; exact this
                   simp [v1]
                   rw [← hG]
                   exact hI.put 3 (by omega) rfl (by rw [hvl]; rfl) (by rw [hI.H, hhp]; simp) (by rw [hD]; simpa using ⟨d1, d2, d3, d4⟩)
                 · have v1 : s.t 131 = .ptr r.b (j * 15 + 13) := by have := hI.val 3 (by omega) hdep; rw [hvl] at this; exact this
                   have l8 : l2 8 = false := by
                     cases h8 : l2 8 with
                     | false => rfl
                     | true => rw [d1 h8] at hl; cases hl
                   have l11 : l2 11 = false := by
                     cases h8 : l2 11 with
                     | false => rfl
                     | true => rw [d4 h8] at l8; cases l8
                   have sH3 : s.H = H3 := by rw [sH, l8, l11]; simp
                   simp [v1, sH3, hb3, y13]
                   rw [← hG]
                   exact hI.put 4 (by omega) rfl (by rw [hvl]; rfl) (by rw [hhp]; simp [l8, l11]) (by rw [hD]; simp [l8, l11]; exact d3)
                 · simp [t21]
                   rw [← hG]
                   exact hI.put 5 (by omega) rfl (by rw [hvl]; rfl) (by rw [hI.H, hhp]; simp) (by rw [hD]; simpa using ⟨d1, d2, d3, d4⟩)
                 · have l7 : l2 7 = false := by
                     cases h8 : l2 7 with
                     | false => rfl
                     | true => rw [d3 h8] at hl; cases hl
                   have l8 : l2 8 = false := by
                     cases h8 : l2 8 with
                     | false => rfl
                     | true => rw [d2 h8] at l7; cases l7
                   have l11 : l2 11 = false := by
                     cases h8 : l2 11 with
                     | false => rfl
                     | true => rw [d4 h8] at l8; cases l8
                   have sH3 : s.H = H3 := by rw [sH, l8, l11]; simp
                   simp [t10, sH3, s2]
                   rw [← hG]
                   exact hI.put 6 (by omega) rfl (by rw [hvl]; rfl) (by rw [hhp]; simp [l8, l11]) (by rw [hD]; simp [l8, l11])
                 · have v1 : s.t 134 = encH h := by have := hI.val 6 (by omega) hdep; rw [hvl] at this; exact this
                   simp [v1]
                   rw [← hG]
                   exact hI.put 7 (by omega) rfl (by rw [hvl]; rfl) (by rw [hI.H, hhp]; simp) (by rw [hD]; simp; exact ⟨d1, hdep, d4⟩)
                 · have v1 : s.t 132 = .osl y.u 0 y.n.Una.length none 7 := by have := hI.val 4 (by omega) hdep.1; rw [hvl] at this; exact this
                   have v2 : s.t 133 = .int .i64 (posH y.n.Una (keyH h)) := by have := hI.val 5 (by omega) hdep.2.1; rw [hvl] at this; exact this
                   have v3 : s.t 135 = .sl 7 [encH h] .full := by have := hI.val 7 (by omega) hdep.2.2; rw [hvl] at this; exact this
                   have l11 : l2 11 = false := by
                     cases h8 : l2 11 with
                     | false => rfl
                     | true => rw [d4 h8] at hl; cases hl
                   have sH3 : s.H = H3 := by rw [sH, hl, l11]; simp
                   have n1 : s = ⟨s.t, H3⟩ := by rw [← sH3]
                   rw [n1]
                   simp [v1, v2, v3]
                   refine ⟨_, _, .inl (by simpa using k44), by simp, ?_⟩
                   simp
                   rw [← hG]
                   exact hI.put 8 (by omega) rfl (by rw [hvl]; rfl) (by rw [hhp]; simp [l11]) (by rw [hD]; simp [l11]; exact ⟨hdep.1, hdep.2.2, d3⟩)
                 · have v1 : s.t 128 = .ptr r.b (j * 15) := by have := hI.val 0 (by omega) hdep.1; rw [hvl] at this; exact this
                   simp [v1]
                   rw [← hG]
                   exact hI.put 9 (by omega) rfl (by rw [hvl]; rfl) (by rw [hI.H, hhp]; simp) (by rw [hD]; simpa using ⟨d1, d2, d3, d4⟩)
                 · have v1 : s.t 137 = .ptr r.b (j * 15) := by have := hI.val 9 (by omega) hdep.1; rw [hvl] at this; exact this
                   simp [v1]
                   rw [← hG]
                   exact hI.put 10 (by omega) rfl (by rw [hvl]; rfl) (by rw [hI.H, hhp]; simp) (by rw [hD]; simpa using ⟨d1, d2, d3, d4⟩)
                 · have v1 : s.t 138 = .ptr r.b (j * 15 + 13) := by have := hI.val 10 (by omega) hdep.1; rw [hvl] at this; exact this
                   have l8 : l2 8 = true := hdep.2.1
                   have v2 : s.t 136 = .osl H3.length 0 (y.n.Una.length + 1) none 7 := by have := hI.val 8 (by omega) l8; rw [hvl] at this; exact this
                   have sH4 : s.H = H4 := by rw [sH, l8, hl]; simp
                   have jl : j * 15 + 13 + 1 ≤ N3.length := by omega
                   simp [v1, v2, sH4, h4b, jl]
                   rw [← hG]
                   refine hI.fin 11 (by omega) (by rw [hhp, hH5]; simp) (by rw [hD]; simp [l8, d1 l8, d2 l8, d3 (d2 l8)])
               · intro l2 s hI hall
                 have al : ∀ k, k < 12 → l2 k = true := fun k hk => hall k (by simpa using hk)
                 have sH := hI.H
                 rw [hhp] at sH
                 simp only [al 11 (by omega), if_true] at sH
                 have t11 := (hI.t0 11 (by omega)).trans z11
                 have t19 := (hI.t0 19 (by omega)).trans z19
                 have t20 := (hI.t0 20 (by omega)).trans z20
                 clear hI hall al
                 obtain ⟨tc, Hc⟩ := s
                 simp only at sH t11 t19 t20
                 subst sH
                 obtain ⟨N5, hN5⟩ : ∃ N5, N5 = nbC N2 ++ (ceNI x1 ++ nbC (N1.drop (j + 1))) := ⟨_, rfl⟩
                 rw [← hN5] at hb5 hL5 hT5
                 have y14b : N5[j * 15 + 14]? = some (.int .i64 y.n.Rsd) := by
                   rw [hN5, mid_get (by rw [nbC_len, p2]) (by simp [ceNI]), hx1]
                   rfl
                 have l5 : j * 15 + 14 + 1 ≤ N5.length := by omega
                 have u3 := hIS.get (id := 3) (c := [.int .i64 now]) (List.mem_append.2 (.inl (by rw [hK1, hL0]; simp)))
                 have uS := hIS.get (id := eS) (c := [.bool bb]) (by simp)
                 have w5 : IntKind.i64.wrap (now + 5) = now + 5 := wrap_in (by omega)
                 have hSet : ∀ (H6 : List (List AVal)) (x' : NbI), Holds H6 (K1 ++ (r.b, nbC (N2 ++ x' :: N1.drop (j + 1))) :: (ownN (N2 ++ x' :: N1.drop (j + 1)) ++ (K2 ++ [(eS, [.bool bb]), (eS + 1, [.ptr 4 (i * 15)])]))) → x'.n = insN y.n h now → HB.length ≤ H6.length → ∀ t', RP .normal ⟨t', H6.set eS [.bool true]⟩ := by
                   intro H6 x' hh hxn hl6 t'
                   have g1 : Holds H6 ((K1 ++ (r.b, nbC (N2 ++ x' :: N1.drop (j + 1))) :: (ownN (N2 ++ x' :: N1.drop (j + 1)) ++ K2)) ++ (eS, [.bool bb]) :: [(eS + 1, [.ptr 4 (i * 15)])]) := by simpa using hh
                   have g2 := g1.set [.bool true]
                   refine hnx _ _ x' ?_ (by simpa using hl6) ?_
                   · rw [eg, hxn]
                   · rw [eg]; simpa using g2
                 have H5l : HB.length ≤ Hc.length := by
                   rw [hH5, hH4]; simp; omega
                 have neS : r.b ≠ eS := by
                   have := hIS.mid.2.2 (eS, [.bool bb]) (by simp)
                   exact fun e => this e.symm
                 have hRS := rsd_step (now + 5) hIS
                 rw [← hN5, p2] at hRS
                 by_cases c8 : y.n.Rsd = 0
                 · rw [c8] at y14b
                   simp [t11, t19, t20, hb5, y14b, u3, w5, l5, List.getElem?_set_ne neS, uS]
                   exact hSet _ _ hRS (by rw [hx1, hW]; simp [insN, c8]) (by simpa using H5l) _
                 · simp [t11, t19, t20, hb5, y14b, c8, uS]
                   exact hSet _ _ hIS (by rw [hx1, hW]; simp [insN, c8]) H5l _
               · intro i2 o ho e he hb
                 have hi : i2 < 12 := by have := (Array.getElem?_eq_some_iff.1 ho).1; simpa using this
                 rcases (by omega : i2 = 0 ∨ i2 = 1 ∨ i2 = 2 ∨ i2 = 3 ∨ i2 = 4 ∨ i2 = 5 ∨ i2 = 6 ∨ i2 = 7 ∨ i2 = 8 ∨ i2 = 9 ∨ i2 = 10 ∨ i2 = 11) with rfl | rfl | rfl | rfl | rfl | rfl | rfl | rfl | rfl | rfl | rfl | rfl
                 all_goals
                   simp at ho
                   subst ho
                   simp at he
                 · subst he; simp
                 · subst he; simp
                 · subst he; simp
                 · subst he; simp
                 · rcases he with rfl | rfl | rfl <;> simp
                 · rcases he with rfl | rfl | rfl | rfl | rfl | rfl | rfl | rfl | rfl | rfl <;> simp
                 · rcases he with rfl | rfl | rfl | rfl | rfl | rfl | rfl | rfl | rfl | rfl <;> simp
                 · rcases he with rfl | rfl | rfl | rfl | rfl | rfl | rfl | rfl | rfl | rfl | rfl | rfl <;> simp
             by_cases c6 : (i : Int) = fr
             · by_cases c7 : x.n.Router = snd
               · have eg : gv x.n = (y.n, false) := by rw [hgv, yn]; unfold givP; rw [if_neg c1, if_neg (by rw [hrq]; simp), if_pos ⟨decide_eq_true c6, c7⟩]
                 have c7' : y.n.Router = snd := by rw [yR, c7]
                 rw [c7'] at y0
                 simp [f8, f9, f16, tI, t0, t1, c6, tb3, y0, tk3]
                 refine hnx _ H3 y ?_ (by omega) ?_
                 · rw [eg]
                 · rw [eg]; simpa using q1
               · have c7' : ¬ y.n.Router = snd := by rw [yR]; exact c7
                 simp [f8, f9, f16, tI, t0, t1, c6, tb3, y0, tk3, c7']
                 refine hgo _ (by simp [c7]) ?_ ?_ ?_ ?_ ?_ ?_ ?_
                 all_goals simp [f8, f9, f10, f11, f16]
             · simp [f8, f9, f16, tI, t0, t1, c6, tk3]
               refine hgo _ (by simp [c6]) ?_ ?_ ?_ ?_ ?_ ?_ ?_
               all_goals simp [f8, f9, f10, f11, f16]
         · rintro H' ⟨p1, N2, p2, p3, p4⟩
           simp only [id] at p1 p4 ⊢
           have e0 : N1.take r.Nb.length = N1 := by rw [← g2]; exact List.take_length
           have e1 : N1.drop r.Nb.length = [] := by rw [← g2]; exact List.drop_length
           rw [e0] at p3
           rw [e0, e1, List.append_nil] at p4
           obtain ⟨bb, hbb⟩ : ∃ bb, bb = N1.any fun x => (gv x.n).2 := ⟨_, rfl⟩
           rw [← hbb] at p4
           have mI := p4.get (id := eI) (c := [.int .i64 i]) (by rw [hK2]; simp)
           have mS := p4.get (id := eS) (c := [.bool bb]) (by simp)
           have eb : bb = s.Nb.any fun n => (gv (remN n h)).2 := by
             rw [hbb, hsnb]
             have := congrArg (fun l : List Nbr => l.any fun n => (gv n).2) g3
             simpa [List.any_map, Function.comp_def] using this
           have es : N2.map (·.n) = s.Nb.map fun n => (gv (remN n h)).1 := by
             rw [p3, hsnb]
             have := congrArg (fun l : List Nbr => l.map fun n => (gv n).1) g3
             simpa [List.map_map, Function.comp_def] using this
           have hEnd : ∀ (t' : Nat → AVal) (sent' : List Nat), sent' = (if bb = true then sent ++ [i] else sent) → t' 1 = .sl 1 (areas.map encW) .sh ∧ t' 8 = .ptr 0 0 ∧ t' 9 = .ptr 1 0 ∧ t' 10 = .ptr 2 0 ∧ t' 11 = .ptr 3 0 ∧ t' 14 = .osl 4 0 n (some n) 15 ∧ t' 15 = .sl 1 (sent'.map fun i => .int .i64 (i : Nat)) .own ∧ t' 26 = .int .i64 n ∧ t' 27 = .int .i64 (i + 1) → Q .normal ⟨t', H'⟩ := by
             intro t' sent' hs' ht
             rw [← hQ, LoopPostP_normal]
             rw [hspr] at ha1 ha2
             refine ⟨_, n - (i + 1), Sim.refl, by omega, i + 1, Pr ++ [⟨r.s, r.b, N2⟩], R', sent', rfl, hi, by simp [hPl], hR', ?_, ?_, ?_, ?_⟩
             · rw [hs']; split
               · simp; omega
               · omega
             · rw [ha1, List.map_append, List.append_assoc]
               congr 1
               have e2 : erI ⟨r.s, r.b, N2⟩ = { s with Nb := s.Nb.map fun n => (gv (remN n h)).1 } := by
                 rw [← hrs]
                 simp only [erI]
                 congr 1
                 rw [es, hsnb]
               rw [← e2]; rfl
             · rw [ha2, hs', ← eb]
               cases bb <;> simp
             · obtain ⟨q1, q2, q3, q4, q5, q6, q7, q8, q9⟩ := ht
               refine ⟨q1, q2, q3, q4, q5, q6, q7, q8, by simpa using q9, ?_⟩
               have e3 : outC (Pr ++ [⟨r.s, r.b, N2⟩] ++ R') = Oc := by
                 rw [hOc]
                 simp [outC, ceII, p2]
               rw [e3]
               refine p4.sub ?_
               rw [hK1, hK2]
               simp [ownT, ownI]
           have b1 : (sent.length + 1) * 8 ≤ 140737488355328 := by omega
           have b2 : sent.length ≤ 140737488355327 := by omega
           cases bb with
           | false =>
             simp [mS, f27, w1]
             refine hEnd _ sent (by simp) ?_
             simp [f1, f8, f9, f10, f11, f14, f15, f26]
           | true =>
             simp [mS, mI, f27, f16, f15, w1, b1, b2]
             refine hEnd _ (sent ++ [i]) (by simp) ?_
             simp [f1, f8, f9, f10, f11, f14, f15, f26]
       have hsk : skipB (decide ((i : Int) = fr)) snd s = (decide ((i : Int) = fr) && (decide (r.s.Kind = 2) && (decide (snd ≠ 0) && (decide (snd = r.s.DR) || decide (snd = r.s.BDR))))) := by rw [← hrs]; rfl
       have tk9 : List.take H9.length H9 = H9 := List.take_length
       have hskA : ∀ (P : Prop), (skipB (decide ((i : Int) = fr)) snd s = true → P) → (skipB (decide ((i : Int) = fr)) snd s = false → P) → P := fun P a b => by
         cases hb : skipB (decide ((i : Int) = fr)) snd s with
         | true => exact a hb
         | false => exact b hb
       by_cases c1 : (i : Int) = fr
       · have w1' : IntKind.i64.wrap (fr + 1) = (i : Int) + 1 := by rw [← c1]; exact w1
         by_cases c2 : r.s.Kind = 2
         · rw [c2] at o0
           by_cases c3 : snd = 0
           · have hb : skipB (decide ((i : Int) = fr)) snd s = false := by rw [hsk, decide_eq_true c1, c2, c3]; simp
             simp [f8, f9, f16, f17, mI, m0, m1, m4', o0, o10, o11, c1, c2, c3, tk9]
             refine hcont hb _ ?_ ?_ ?_ ?_ ?_ ?_ ?_ ?_ ?_ ?_ ?_
             all_goals simp [f1, f8, f9, f10, f11, f14, f15, f16, f17, f26, f27]
           · have c3' : (snd == 0) = false := by simpa using c3
             by_cases c4 : snd = r.s.DR
             · have hb : skipB (decide ((i : Int) = fr)) snd s = true := by rw [hsk, decide_eq_true c1, c2, decide_eq_true c3, decide_eq_true c4]; simp
               simp [f8, f9, f16, f17, mI, m0, m1, m4', o0, o10, o11, c1, c2, c3, c3', ← c4, tk9, f27, w1']
               refine hskip2 hb _ ?_
               simp [f1, f8, f9, f10, f11, f14, f15, f16, f17, f26, f27, w1']
               exact c1.symm
             · by_cases c5 : snd = r.s.BDR
               · have hb : skipB (decide ((i : Int) = fr)) snd s = true := by rw [hsk, decide_eq_true c1, c2, decide_eq_true c3, decide_eq_true c5]; simp
                 have c4' : (r.s.BDR == r.s.DR) = false := by rw [← c5]; simpa using c4
                 simp [f8, f9, f16, f17, mI, m0, m1, m4', o0, o10, o11, c1, c2, c3, c3', c4, c4', ← c5, tk9, f27, w1']
                 refine hskip2 hb _ ?_
                 simp [f1, f8, f9, f10, f11, f14, f15, f16, f17, f26, f27, w1']
                 exact c1.symm
               · have hb : skipB (decide ((i : Int) = fr)) snd s = false := by rw [hsk, decide_eq_false c4, decide_eq_false c5]; simp
                 simp [f8, f9, f16, f17, mI, m0, m1, m4', o0, o10, o11, c1, c2, c3, c3', c4, c5, tk9]
                 refine hcont hb _ ?_ ?_ ?_ ?_ ?_ ?_ ?_ ?_ ?_ ?_ ?_
                 all_goals simp [f1, f8, f9, f10, f11, f14, f15, f16, f17, f26, f27]
         · have hb : skipB (decide ((i : Int) = fr)) snd s = false := by rw [hsk, decide_eq_false c2]; simp
           simp [f8, f9, f16, f17, mI, m0, m1, m4', o0, o10, o11, c1, c2, tk9]
           refine hcont hb _ ?_ ?_ ?_ ?_ ?_ ?_ ?_ ?_ ?_ ?_ ?_
           all_goals simp [f1, f8, f9, f10, f11, f14, f15, f16, f17, f26, f27]
       · have hb : skipB (decide ((i : Int) = fr)) snd s = false := by rw [hsk, decide_eq_false c1]; rfl
         simp [f8, f9, f16, f17, mI, m0, m1, m4', o0, o10, o11, c1, tk9]
         refine hcont hb _ ?_ ?_ ?_ ?_ ?_ ?_ ?_ ?_ ?_ ?_ ?_
         all_goals simp [f1, f8, f9, f10, f11, f14, f15, f16, f17, f26, f27]
end Go.Proofs.Ythonenmafbpbkaa

/- Flooding, by the reference: Insert, Lose, forget. -/
namespace Go.Proofs.Ythonenmafbpbkaa
open Go Go.Am
set_option maxHeartbeats 4000000 in
set_option maxRecDepth 10000 in
theorem g87 (l : List Hdr) (n : Nat) (hn : l.length = n) (hlen : (n + 1) * 56 ≤ 140737488355328) (b : Hdr) : CFun Try.prog 87 [.sl 7 (l.map encH) .sh, encH b] [] (.sl 7 ((insWH b false l).map encH) .sh) [] := by
 refine CFun.intro (tr := [45]) (fz := []) (n := 50) (rs := [.tmp 4]) Try.func87 rfl (by kernel_rfl) rfl rfl mixed (by kernel_rfl) (by simp) (by simp) ?_
 simp
 refine LoopK.intro (tr := [30, 36]) mixed (by kernel_rfl) (fun q : Nat × Bool × List Hdr => [(0, .sl 7 (l.map encH) .sh), (3, .ptr 0 0), (5, .sl 7 (q.2.2.map encH) .own), (6, .bool q.2.1), (7, .int .i64 q.1)]) (fun _ => [cellsH b])
   (fun q => q.1 ≤ n ∧ q.2.2.length ≤ q.1 + q.2.1.toNat ∧ q.2.2 ++ insWH b q.2.1 (l.drop q.1) = insWH b false l) (fun q => n - q.1) (0, false, []) ?_ ?_ ?_
 · simp
 · simp
 · rintro ⟨i, d, o⟩ ⟨h1, h3, h2⟩
   simp only at h1 h2 h3
   have hN : n + 1 ≤ 140737488355328 := by omega
   have hd1 : d.toNat ≤ 1 := by cases d <;> decide
   by_cases hi : i < n
   · have t1 : o.length + 1 ≤ n + 1 := by omega
     have t2 : d = false → o.length + 1 + 1 ≤ n + 1 := by rintro rfl; simp at h3; omega
     have s1 : o.length + 1 ≤ 140737488355328 := Nat.le_trans t1 hN
     have s2 : (o.length + 1) * 56 ≤ 140737488355328 := Nat.le_trans (Nat.mul_le_mul_right 56 t1) hlen
     obtain ⟨x, hx, hd⟩ := get_drop (l := l) (i := i) (by omega)
     rw [hd] at h2
     have w1 : IntKind.i64.wrap ((i : Int) + 1) = i + 1 := wrap_in (by omega)
     have hb := fun H => (c26 b).up' H rfl rfl
     have hK := fun H => (c26 x).up' H rfl rfl
     have hC := fun H => (c28 (keyH b) (keyH x)).up' H rfl rfl
     simp only [insWH] at h2
     generalize keyH b = kb at hb hC h2
     generalize keyH x = kx at hK hC h2
     clear hd
     simp [hi, hn, hx, gE hx]
     refine ⟨_, _, .inl (by simpa using hb _), by simp, ?_⟩
     simp [hi, hn, hx, gE hx]
     refine ⟨_, _, .inl (by simpa using hK _), by simp, ?_⟩
     simp
     refine ⟨_, _, .inl (by simpa using hC _), by simp, ?_⟩
     generalize cmpY kb kx = c at h2
     cases d
     · have s3 : o.length + 1 + 1 ≤ 140737488355328 := Nat.le_trans (t2 rfl) hN
       have s4 : (o.length + 1 + 1) * 56 ≤ 140737488355328 := Nat.le_trans (Nat.mul_le_mul_right 56 (t2 rfl)) hlen
       simp only [Bool.toNat_false, Nat.add_zero] at h3
       by_cases e1 : c ≤ 0
       · rw [if_pos ⟨rfl, e1⟩, decide_eq_true e1] at h2
         by_cases e2 : c = 0
         · rw [if_neg (by simpa using e2)] at h2
           subst e2
           simp [s1, s2, w1]
           exact ⟨i + 1, o ++ [b], ⟨by omega, by simp; omega, by simpa using h2⟩, by omega, by simp⟩
         · rw [if_pos e2] at h2
           simp [e1, e2, s1, s2, s3, s4, w1, hi, hn, hx, gE hx]
           exact ⟨i + 1, o ++ [b] ++ [x], ⟨by omega, by simp; omega, by simpa using h2⟩, by omega, by simp⟩
       · have e2 : c ≠ 0 := by omega
         rw [if_neg (by simp [e1]), decide_eq_false e1, if_pos e2] at h2
         simp [e1, e2, s1, s2, w1, hi, hn, hx, gE hx]
         exact ⟨i + 1, o ++ [x], ⟨by omega, by simp; omega, by simpa using h2⟩, by omega, by simp⟩
     · simp only [Bool.toNat_true] at h3
       rw [if_neg (by simp), Bool.true_or] at h2
       by_cases e2 : c = 0
       · rw [if_neg (by simpa using e2)] at h2
         simp [e2, w1]
         exact ⟨i + 1, o, ⟨by omega, by omega, by simpa using h2⟩, by omega, by simp⟩
       · rw [if_pos e2] at h2
         simp [e2, s1, s2, w1, hi, hn, hx, gE hx]
         exact ⟨i + 1, o ++ [x], ⟨by omega, by simp; omega, by simpa using h2⟩, by omega, by simp⟩
   · have : i = n := by omega
     subst this
     rw [List.drop_eq_nil_of_le (by omega)] at h2
     cases d
     · simp only [Bool.toNat_false, Nat.add_zero] at h3
       have t1 : o.length + 1 ≤ i + 1 := by omega
       have s1 : o.length + 1 ≤ 140737488355328 := Nat.le_trans t1 hN
       have s2 : (o.length + 1) * 56 ≤ 140737488355328 := Nat.le_trans (Nat.mul_le_mul_right 56 t1) hlen
       simp [insWH] at h2
       simp [hn, s1, s2, ← h2]
     · simp [insWH] at h2
       simp [hn, ← h2]
set_option maxHeartbeats 4000000 in
set_option maxRecDepth 10000 in
theorem g24 (l : List Hdr) (n : Nat) (hn : l.length = n) (hlen : n * 56 ≤ 140737488355328) (k : LKey) : CFun Try.prog 24 [.sl 7 (l.map encH) .sh, encY k] [] (.sl 7 ((l.filter fun u => !decide (keyH u = k)).map encH) .sh) [] := by
 refine CFun.intro (tr := [21]) (fz := []) (n := 29) (rs := [.tmp 4]) Try.func24 rfl (by kernel_rfl) rfl rfl mixed (by kernel_rfl) (by simp) (by simp) ?_
 obtain ⟨W, hW⟩ : ∃ W, W = l.filter fun u => !decide (keyH u = k) := ⟨_, rfl⟩
 rw [← hW]
 simp
 refine LoopK.intro (tr := [21]) mixed (by kernel_rfl) (fun q : Nat × List Hdr => [(0, .sl 7 (l.map encH) .sh), (3, .ptr 0 0), (5, .sl 7 (q.2.map encH) .own), (6, .int .i64 q.1)]) (fun _ => [cellsY k])
   (fun q => q.1 ≤ n ∧ q.2.length ≤ q.1 ∧ W = q.2 ++ (l.drop q.1).filter fun u => !decide (keyH u = k)) (fun q => n - q.1) (0, []) ?_ ?_ ?_
 · exact ⟨Nat.zero_le _, Nat.le_refl _, by simpa using hW⟩
 · simp
 rintro ⟨i, acc⟩ ⟨i1, i2, i3⟩
 simp only at i1 i2 i3 ⊢
 by_cases hi : i < n
 · obtain ⟨u, hu, hd⟩ := get_drop (l := l) (i := i) (by omega)
   rw [hd] at i3
   simp only [List.filter_cons] at i3
   have w1 : IntKind.i64.wrap ((i : Int) + 1) = i + 1 := wrap_in (by omega)
   have s1 : acc.length ≤ 140737488355327 := by omega
   have s2 : (acc.length + 1) * 56 ≤ 140737488355328 := by omega
   have ku := fun H => (c26 u).up' H rfl rfl
   have hk := keyY_iff (keyH u) k
   simp [hi, hn, hu, gE hu]
   refine ⟨_, _, .inl (by simpa using ku _), by simp, ?_⟩
   by_cases hb : keyH u = k
   · rw [decide_eq_true hb] at i3
     simp only [Bool.not_true, Bool.false_eq_true, if_false] at i3
     rw [hb]
     simp [w1]
     exact ⟨i + 1, acc, ⟨by omega, by omega, i3⟩, by omega, by simp⟩
   · rw [decide_eq_false hb] at i3
     simp only [Bool.not_false, if_true] at i3
     have hk3 : ¬ (keyH u).Ty = k.Ty ∨ ¬ (keyH u).ID = k.ID ∨ ¬ (keyH u).Len = k.Len ∨ ¬ (keyH u).Router = k.Router := by
       have hk2 := key_ne hb
       omega
     generalize keyH u = q at *
     simp
     rw [if_pos hk3]
     simp [hi, hn, hu, gE hu, s1, s2, w1]
     exact ⟨i + 1, acc ++ [u], ⟨by omega, by simp; omega, by simpa using i3⟩, by omega, by simp⟩
 · rw [List.drop_eq_nil_of_le (by omega)] at i3
   simp at i3
   simp [hi, hn, i3]
set_option maxHeartbeats 4000000 in
set_option maxRecDepth 10000 in
theorem g46 (n : Nbr) (h : Hdr) (hu : n.Una.length * 56 ≤ 140737488351232) : CFun Try.prog 46 [encN n, encY (keyH h)] [] (encN (remN n h)) [] := by
 refine CFun.intro (tr := []) (fz := []) (n := 29) (rs := [.cell 4 38]) Try.func46 rfl (by kernel_rfl) rfl rfl mixed (by kernel_rfl) (by simp) (by simp) ?_
 have k1 := fun H => (g24 n.Una _ rfl (by omega) (keyH h)).up' H rfl rfl
 have e : remN n h = { n with Una := losN n h, Rsd := if ((losN n h).length < n.Una.length ∧ (losN n h).length = 0) ∧ waitsN n = false then 0 else n.Rsd } := rfl
 rw [e]
 have hk : (n.Una.filter fun u => !decide (keyH u = keyH h)) = losN n h := rfl
 rw [hk] at k1
 have hle : (losN n h).length ≤ n.Una.length := List.length_filter_le _ _
 have k58 := fun H => (a58 { n with Una := losN n h }).up' H rfl rfl
 have hw : waitsN { n with Una := losN n h } = waitsN n := rfl
 rw [hw] at k58
 clear hk e
 generalize losN n h = W at *
 generalize keyH h = kk at *
 generalize waitsN n = b at *
 have hn0 : (0 : Int) < n.Una.length ↔ 0 < n.Una.length := by omega
 simp
 refine ⟨_, _, .inl (by simpa using k1 _), by simp, ?_⟩
 by_cases c1 : 0 < n.Una.length
 · by_cases c2 : W = []
   · subst c2
     simp [c1]
     refine ⟨_, _, .inl (by simpa using k58 _), by simp, ?_⟩
     cases b <;> simp [c1, zN]
   · have c3 : ¬ W.length = 0 := fun q => c2 (List.length_eq_zero_iff.1 q)
     simp [c1, c2, c3, zN]
 · have c4 : n.Una.length = 0 := by omega
   simp [c1, c4, zN]
end Go.Proofs.Ythonenmafbpbkaa

/- Flooding, by the reference: give. -/
namespace Go.Proofs.Ythonenmafbpbkaa
open Go Go.Am
theorem insF {l : List Hdr} {h : Hdr} (asc : ascH l) (hno : ∀ u ∈ l, keyH u ≠ keyH h) : insWH h false l = insL l (posH l (keyH h)) h := by
 rw [insWH_put _ asc, ← putH_R h asc]
 unfold putRH
 rw [if_neg]
 rw [fndH_iff asc]
 rintro ⟨x, hx, e⟩
 exact hno x hx e
def givR (n : Nbr) (own : Bool) (h : Hdr) (now : Int) : Nbr × Bool :=
 if (reqN n h).2 = true then ((reqN n h).1, false) else if own = true then ((reqN n h).1, false) else (insN (reqN n h).1 h now, true)
set_option maxHeartbeats 4000000 in
set_option maxRecDepth 10000 in
theorem g47 (n : Nbr) (h : Hdr) (now : Int) (hnow : 0 ≤ now ∧ now ≤ 1099511627776) (hq : n.Req.length * 56 ≤ 140737488351232) (hu : n.Una.length * 56 ≤ 140737488351232) (hqA : ∀ x ∈ n.Req, inI x.Age) (hA : inI h.Age) (asc : ascH n.Una) (hno : ∀ u ∈ n.Una, keyH u ≠ keyH h) (own : Bool) :
   CFun Try.prog 47 [encN n, .bool own, encH h, .int .i64 now] [] (.tup [encN (givR n own h now).1, .bool (givR n own h now).2]) [] := by
 refine CFun.intro (tr := []) (fz := []) (n := 49) (rs := [.cell 8 38, .tmp 9]) Try.func47 rfl (by kernel_rfl) rfl rfl mixed (by kernel_rfl) (by simp) (by simp) ?_
 obtain ⟨R, hR⟩ : ∃ R, R = givR n own h now := ⟨_, rfl⟩
 rw [← hR]
 have k23 := fun H => (c26 h).up' H rfl rfl
 have k62 := fun H => (x20 n.Req _ rfl (by omega) (keyH h)).up' H rfl rfl
 have hno2 : (reqN n h).1.Una = n.Una := (reqN_fields n h).2.2.2.2.2.2.2.2.2.2.2
 obtain ⟨rq, hrq⟩ : ∃ rq, rq = reqN n h := ⟨_, rfl⟩
 rw [← hrq] at hno2
 have hR2 : R = if rq.2 = true then (rq.1, false) else if own = true then (rq.1, false) else (insN rq.1 h now, true) := by rw [hR, hrq]; rfl
 have k87 := fun H => (g87 rq.1.Una _ rfl (by rw [hno2]; omega) h).up' H rfl rfl
 have hW : insWH h false rq.1.Una = insL rq.1.Una (posH rq.1.Una (keyH h)) h := insF (by rw [hno2]; exact asc) (by rw [hno2]; exact hno)
 rw [hW] at k87
 have hIN : insN rq.1 h now = { rq.1 with Una := insL rq.1.Una (posH rq.1.Una (keyH h)) h, Rsd := if rq.1.Rsd = 0 then now + 5 else rq.1.Rsd } := rfl
 rw [hIN] at hR2
 have w5 : IntKind.i64.wrap (now + 5) = now + 5 := wrap_in (by omega)
 clear hIN hW hR
 generalize insL rq.1.Una (posH rq.1.Una (keyH h)) h = W at *
 rcases idxL_find (hasKH (keyH h)) n.Req 0 with ⟨e1, _, _⟩ | ⟨i, x, e1, e2, _, _, _⟩
 · rw [e1] at k62
   rw [reqN_none e1] at hrq
   subst hrq
   simp only [Bool.false_eq_true, if_false] at hR2
   generalize keyH h = kk at *
   simp
   refine ⟨_, _, .inl (by simpa using k23 _), by simp, ?_⟩
   simp
   refine ⟨_, _, .inl (by simpa using k62 _), by simp, ?_⟩
   cases own with
   | true =>
     simp only [if_true] at hR2
     subst hR2
     simp [zN]
   | false =>
     simp only [Bool.false_eq_true, if_false] at hR2
     simp
     refine ⟨_, _, .inl (by simpa using k87 _), by simp, ?_⟩
     by_cases c8 : n.Rsd = 0
     · rw [if_pos c8] at hR2
       subst hR2
       simp [c8, w5, zN]
     · rw [if_neg c8] at hR2
       subst hR2
       simp [c8, zN]
 · rw [Nat.zero_add] at e1
   rw [e1] at k62
   rw [reqN_some e1 e2] at hrq
   have hil : i < n.Req.length := (List.getElem?_eq_some_iff.1 e2).1
   have k57 := fun H => (c17 h x hA (hqA x (List.mem_of_getElem? e2))).up' H rfl rfl
   have k86 := fun H => (x67 n i hq).up' H rfl rfl
   generalize keyH h = kk at *
   generalize cmpH h x = c at *
   have hiI : (i : Int) < n.Req.length := by omega
   have hi0 : ¬ (i : Int) < 0 := by omega
   simp
   refine ⟨_, _, .inl (by simpa using k23 _), by simp, ?_⟩
   simp
   refine ⟨_, _, .inl (by simpa using k62 _), by simp, ?_⟩
   simp [hil, e2, gE e2, hiI, hi0]
   refine ⟨_, _, .inl (by simpa using k57 _), by simp, ?_⟩
   by_cases c1 : c < 0
   · rw [if_pos c1] at hrq
     subst hrq
     simp only [if_true] at hR2
     subst hR2
     simp [c1, zN]
   rw [if_neg c1] at hrq
   have q1 : rq.1 = lessR n i := by rw [hrq]
   have q2 : rq.2 = decide (c = 0) := by rw [hrq]
   rw [q1] at k87 hR2
   rw [q2] at hR2
   generalize lessR n i = m at *
   simp [c1]
   refine ⟨_, _, .inl (by simpa using k86 _), by simp, ?_⟩
   by_cases c2 : c = 0
   · simp only [c2, decide_true, if_true] at hR2
     subst hR2
     simp [c2, zN]
   · simp only [c2, decide_false, Bool.false_eq_true, if_false] at hR2
     cases own with
     | true =>
       simp only [if_true] at hR2
       subst hR2
       simp [c2, zN]
     | false =>
       simp only [Bool.false_eq_true, if_false] at hR2
       simp [c2]
       refine ⟨_, _, .inl (by simpa using k87 _), by simp, ?_⟩
       by_cases c8 : m.Rsd = 0
       · rw [if_pos c8] at hR2
         subst hR2
         simp [c8, w5, zN]
       · rw [if_neg c8] at hR2
         subst hR2
         simp [c8, zN]
end Go.Proofs.Ythonenmafbpbkaa
