/- The exchange of databases: what is sent again. -/
import Derived.Test.YtfngaildaoahpaaXR1
import Derived.Test.YtfngaildaoahpaaXD2
import Derived.Test.YtfngaildaoahpaaAmAE
set_option linter.unusedSimpArgs false
set_option linter.unusedVariables false
namespace Go.Proofs.Ytfngaildaoahpaa
open Go Go.Am
end Go.Proofs.Ytfngaildaoahpaa

/- The law ExchangeGot. -/
namespace Go.Proofs.Ytfngaildaoahpaa
open Go Go.Am
theorem x28a (n : Nbr) (ok : okN n) (h : Hdr) : CFun Try.prog 28 [encN n, encH h] [] (encN (gotN n h)) [] := by
 by_cases hz : n.Req = []
 · exact x28z n ok hz h
 · exact x28 n ok hz h
end Go.Proofs.Ytfngaildaoahpaa

/- The exchange of databases: what Receive answers is the same as itself. -/
namespace Go.Proofs.Ytfngaildaoahpaa
open Go Go.Am
end Go.Proofs.Ytfngaildaoahpaa

/- The exchange of databases: the time of the next repetition. -/
namespace Go.Proofs.Ytfngaildaoahpaa
open Go Go.Am
set_option maxHeartbeats 2000000 in
set_option maxRecDepth 10000 in
theorem x47 (n : Nbr) (now : Int) (hw : inI (now + 5)) : CFun Try.prog 47 [encN n, .int .i64 now] [] (encN (settleN n now)) [] := by
 refine CFun.intro (tr := []) (fz := []) (n := 18) (rs := [.cell 4 26]) Try.func47 rfl (by kernel_rfl) rfl rfl mixed (by kernel_rfl) (by simp) (by simp) ?_
 have h1 := fun H => (x59 n).up' H rfl rfl
 have w1 : IntKind.i64.wrap (now + 5) = now + 5 := wrap_in hw
 unfold settleN
 generalize waitsN n = b at *
 simp
 refine ⟨_, _, .inl (by simpa using h1 _), by simp, ?_⟩
 cases b
 · by_cases hu : n.Una = []
   · simp [hu]
   · have hu' : ¬ n.Una.length = 0 := fun h => hu (List.length_eq_zero_iff.1 h)
     simp [hu]
 · simp [w1]
end Go.Proofs.Ytfngaildaoahpaa

/- A contract among two variables, at any two. -/

/- The exchange of databases, by the program: a step's end. -/
namespace Go.Proofs.Ytfngaildaoahpaa
open Go Go.Am
@[simp] def cellsS0 (n : Nbr) (x : AVal) (self : Int) (db : List Lsa) (p : Pkt) (o : AVal) : List AVal := cellsNx n x ++ ([.int .u32 self, .sl 15 (db.map encA) .sh] ++ (cellsPk p ++ [o]))
@[simp] def cellsZ0 (n : Nbr) (x : AVal) (self : Int) (db : List Lsa) (p : Pkt) : List AVal := cellsS0 n x self db p (.sl 0 [] .full)
@[simp] def cellsS (n : Nbr) (x : AVal) (self : Int) (db : List Lsa) (p : Pkt) (out : List Pkt) : List AVal := cellsS0 n x self db p (.sl 18 (out.map encPk) .own)
@[simp] def reqV (n : Nbr) : AVal := .sl 7 (n.Req.map encH) .sh
set_option maxHeartbeats 4000000 in
set_option maxRecDepth 10000 in
theorem x44 (n : Nbr) (hs : n.Sent.length * 56 ≤ 140737488351232) (self : Int) (db : List Lsa) (p : Pkt) :
   CFun Try.prog 44 [.ptr 0 0] [cellsZ0 n (reqV n) self db p] (.tup []) [cellsS n (reqV n) self db p [pendN n self]] := by
 refine CFun.intro (tr := []) (fz := []) (n := 20) (rs := []) Try.func44 rfl (by kernel_rfl) rfl rfl mixed (by kernel_rfl) (by simp) (by simp) ?_
 have k := fun H => (x35 n hs self).up' H rfl rfl
 generalize pendN n self = q at *
 simp
 refine ⟨_, _, .inl (by simpa using k _), by simp, ?_⟩
 simp
set_option maxHeartbeats 4000000 in
set_option maxRecDepth 10000 in
theorem x79z (n : Nbr) (hz : n.Req = []) (self : Int) (db : List Lsa) (p : Pkt) (out : List Pkt) :
   CFun Try.prog 79 [.ptr 0 0] [cellsS n (reqV n) self db p out] (.tup []) [cellsS (finN n) (reqV n) self db p (finP n self out)] := by
 refine CFun.intro (tr := []) (fz := []) (n := 35) (rs := []) Try.func79 rfl (by kernel_rfl) rfl rfl mixed (by kernel_rfl) (by simp) (by simp) ?_
 unfold finN finP
 simp [hz]
set_option maxHeartbeats 4000000 in
set_option maxRecDepth 10000 in
theorem x79n (n : Nbr) (hl : n.Req.length * 56 ≤ 140737488351232) (self : Int) (db : List Lsa) (p : Pkt) :
   CFun Try.prog 79 [.ptr 0 0] [cellsZ0 n (reqV n) self db p] (.tup []) [cellsS (finN n) (reqV n) self db p (finP n self [])] := by
 refine CFun.intro (tr := []) (fz := []) (n := 35) (rs := []) Try.func79 rfl (by kernel_rfl) rfl rfl mixed (by kernel_rfl) (by simp) (by simp) ?_
 unfold finN finP
 by_cases h : n.Req = []
 · simp [h]
 have h' : 0 < n.Req.length := List.length_pos_iff.2 h
 have k := fun H => (x60 { n with State := 5 } hl self).up' H rfl rfl
 generalize reqN { n with State := 5 } self = q at *
 simp [h, h']
 refine ⟨_, _, .inl (by simpa using k _), by simp, ?_⟩
 simp
end Go.Proofs.Ytfngaildaoahpaa

/- Rows of headers: slices.Insert. -/
namespace Go.Proofs.Ytfngaildaoahpaa
open Go Go.Am
theorem nh_ov {k1 : Nat} {xs : List AVal} {mm : Am.Mode} {id off len : Nat} {cap : Option Nat} {k2 : Nat} {H : List (List AVal)} {cs : List AVal} (hid : H[id]? = some cs) (hne : cs ≠ []) : EFun Try.prog 111 [.sl k1 xs mm, .osl id off len cap k2] H (.bool false) :=
 overlaps_no (fn := Try.f111) Try.func111 (by kernel_rfl) (by decide +kernel) (by kernel_rfl) (by kernel_rfl) (t := 24) (k := 7) (by kernel_rfl) (by simp) hid hne
set_option maxHeartbeats 4000000 in
set_option maxRecDepth 10000 in
theorem nh_insN (l : List (Hdr)) (i n M : Nat) (hn : l.length = n) (hlen : (n + 1) * 56 ≤ 140737488355328) (hi : i ≤ n) (h0 : 0 < n) (b : Hdr) : CFun Try.prog 100 [.osl 0 0 n (some n) 7, .int .i64 i, .sl 7 [.agg (ceH b)] .sh] [rowC ceH l ++ List.replicate M .undef]
   (.osl 1 0 (n + 1) none 7) [[], rowC ceH (insL l i b)] := by
 refine CFun.intro (tr := [100025, 100040]) (fz := []) (n := 95) (rs := [.tmp 6]) Try.func100 rfl (by kernel_rfl) rfl rfl mixed (by kernel_rfl) (by simp) (by simp) ?_
 have s1 : (n:Int) + 1 < 140737488355330 := by omega
 have w1 : IntKind.i64.wrap ((n : Int) + 1) = n + 1 := wrap_in (by omega)
 have w2 : IntKind.i64.wrap ((i : Int) + 1) = i + 1 := wrap_in (by omega)
 have w3 : IntKind.i64.wrap ((n : Int) + 1 - i) = n + 1 - i := wrap_in (by omega)
 have hfl := (eHh).rowLen l
 have hil := insL_len (b := b) (l := l) (i := i) (by omega)
 have htr := (eHh).rowTree (insL l i b)
 have hcb : ceH b = rowC ceH [b] := (rowC_one b).symm
 have hbl : (rowC ceH [b]).length = 7 := by rw [(eHh).rowLen]; rfl
 have hsrc : asrc [rowC ceH l ++ List.replicate M AVal.undef] (.osl 0 0 i (some n) 7) = some (7, i, rowC ceH (l.take i)) := by
   unfold asrc
   by_cases h0 : i = 0
   · subst h0; rfl
   · simp only [h0, if_false, List.getElem?_cons_zero, Option.bind_some]
     rw [if_pos (by rw [List.length_append, hfl]; simp; omega), List.drop_zero, List.take_append_of_le_length (by omega), (eHh).rowTake]
 have hsb : ∀ H, asrc H (.sl 7 [.agg (ceH b)] .sh) = some (7, 1, rowC ceH [b]) := fun H => rfl
 have hle := (eHh).rowLe 2 (insL l i b)
 have hds := (eHh).rowDis (insL l i b)
 by_cases h1 : i = n
 · subst h1
   have z1 : (i + 1) * 56 ≤ 140737488355328 := by omega
   have z2 : i ≤ 140737488355327 := by omega
   have e1 : l.take i = l := List.take_of_length_le (by omega)
   have e2 : insL l i b = l ++ [b] := by simp [insL, e1, List.drop_of_length_le (show l.length ≤ i by omega)]
   rw [e1] at hsrc
   rw [e2] at htr hil hle hds ⊢
   simp [hsrc, hsb, -asrc, z1, z2, hds, ← rowC_app, -List.all_eq_true, hle]
 · have h1' : ¬ ((i:Int) = n) := by omega
   have hsrc2 : ∀ X, asrc ((rowC ceH l ++ List.replicate M AVal.undef) :: X) (.osl 0 (i * 7) (n - i) (some (n - i)) 7) = some (7, n - i, rowC ceH (l.drop i)) := by
     intro X
     unfold asrc
     simp only [show ¬ n - i = 0 by omega, if_false, List.getElem?_cons_zero, Option.bind_some]
     rw [if_pos (by rw [List.length_append, hfl]; omega), List.drop_append_of_le_length (by omega), (eHh).rowDrop, List.take_append_of_le_length (by rw [(eHh).rowLen]; simp; omega), List.take_of_length_le (by rw [(eHh).rowLen]; simp; omega)]
   have hp0 : (0 : Int) ≤ (i : Int) + 1 := by omega
   have hp1 : 0 < (n + 1) * 7 := by omega
   have hi1 : i ≤ n + 1 := by omega
   have hnat : ((n : Int) + 1 - i).toNat = n + 1 - i := by omega
   have hti : (rowC ceH (l.take i)).length = i * 7 := by rw [(eHh).rowLen, List.length_take]; congr 1; omega
   have hdr : (rowC ceH (l.drop i)).length = (n - i) * 7 := by rw [(eHh).rowLen, List.length_drop, hn]
   have hbt : (rowC ceH [b]).take 7 = rowC ceH [b] := List.take_of_length_le (by rw [hbl]; exact Nat.le_refl _)
   have hLL : (rowC ceH (insL l i b)).length = (n + 1) * 7 := by rw [(eHh).rowLen, hil, hn]
   have hdr2 : (rowC ceH (l.drop i)).take ((n - i) * 7) = rowC ceH (l.drop i) := List.take_of_length_le (by rw [hdr]; omega)
   have h2' : ((n:Int) < n + 1) := by omega
   have y1 : (i : Int) ≤ n + 1 := by omega
   have y2 : ((n : Int) + 1 - i) * 56 ≤ 281474976710656 := by omega
   have y3 : (n + 1) * 56 ≤ 140737488355328 := by omega
   have y4 : n ≤ 140737488355327 := by omega
   have m1 : ¬ n + 1 - i = 0 := by omega
   have m2 : min 1 (n + 1 - i) = 1 := by omega
   have m3 : min (n - i) (n - i) = n - i := by omega
   have m4 : ¬ n - i = 0 := by omega
   have m5 : n + 1 - (i + 1) = n - i := by omega
   have m6 : (n + 1 - i) * 7 - 7 - (l.length - i) * 7 = 0 := by omega
   have hset1 := (eHh).setFlat (l.take i) i (by simp; omega) (List.replicate ((n + 1 - i) * 7) AVal.undef) [b] (by simp; omega)
   have hset2 := (eHh).setFlat (l.take i ++ [b]) (i + 1) (by simp; omega) (List.replicate ((n + 1 - i) * 7 - 7) AVal.undef) (l.drop i) (by simp; omega)
   have hins : l.take i ++ [b] ++ l.drop i = insL l i b := by simp [insL]
   rw [hins] at hset2
   have hft1 : i * 7 + 7 ≤ i * 7 + (n + 1 - i) * 7 := by omega
   have hft2 : i + 1 ≤ n + 1 := by omega
   have hft3 : (i + 1) * 7 + (n - i) * 7 ≤ i * 7 + (n + 1 - i) * 7 := by omega
   have hft4 : (i + 1) * 7 + (n - i) * 7 ≤ (rowC ceH (l.take i ++ [b])).length + ((n + 1 - i) * 7 - 7) := by rw [(eHh).rowLen]; simp; omega
   simp [hp0, hp1, y1, y2, y3, y4, m1, m2, m3, m4, m5, m6, hbt, hset1, hset2, hft1, hft2, hft3, hti, hft4, htr, hdr, hdr2, hLL, hi, hi1, h1, h1', h2', w1, w2, w3, hsrc, hsrc2, hsb, -asrc, -setR, hds, (eHh).rowDis, (eHh).rowScalar, -List.all_eq_true, hnat, hle]
set_option maxHeartbeats 4000000 in
set_option maxRecDepth 10000 in
theorem nh_insC (l : List (Hdr)) (i n C M : Nat) (hn : l.length = n) (hlen : (n + 1) * 56 ≤ 140737488355328) (hC : n + 1 ≤ C) (hM : (C - n) * 7 ≤ M) (hi : i ≤ n) (b : Hdr) : CFun Try.prog 100 [.osl 1 0 n (some C) 7, .int .i64 i, .sl 7 [.agg (ceH b)] .sh] [[], rowC ceH l ++ List.replicate M .undef]
   (.osl 1 0 (n + 1) (some C) 7) [[], rowC ceH (insL l i b)] := by
 refine CFun.intro (tr := [100025, 100040]) (fz := []) (n := 95) (rs := [.tmp 6]) Try.func100 rfl (by kernel_rfl) rfl rfl mixed (by kernel_rfl) (by simp) (by simp) ?_
 have w1 : IntKind.i64.wrap ((n : Int) + 1) = n + 1 := wrap_in (by omega)
 have w2 : IntKind.i64.wrap ((i : Int) + 1) = i + 1 := wrap_in (by omega)
 have hfl := (eHh).rowLen l
 have hil := insL_len (b := b) (l := l) (i := i) (by omega)
 have hcb : ceH b = rowC ceH [b] := (rowC_one b).symm
 have hbl : (rowC ceH [b]).length = 7 := by rw [(eHh).rowLen]; rfl
 have hsb : ∀ H, asrc H (.sl 7 [.agg (ceH b)] .sh) = some (7, 1, rowC ceH [b]) := fun H => rfl
 have hle : ∀ rest, LeCells 2 (rowC ceH (insL l i b) ++ rest) (rowC ceH (insL l i b)) := fun rest => by
   have h1 := (eHh).rowLe 2 (insL l i b)
   have h2 := LeCells_app h1 rfl (show LeCells 2 rest [] by simp)
   rwa [List.append_nil] at h2
 have hsrc : asrc [[], rowC ceH l ++ List.replicate M AVal.undef] (.osl 1 0 i (some C) 7) = some (7, i, rowC ceH (l.take i)) := by
   unfold asrc
   by_cases h0 : i = 0
   · subst h0; rfl
   · simp only [h0, if_false, List.getElem?_cons_zero, List.getElem?_cons_succ, Option.bind_some]
     rw [if_pos (by rw [List.length_append, hfl]; simp; omega), List.drop_zero, List.take_append_of_le_length (by omega), (eHh).rowTake]
 by_cases h1 : i = n
 · subst h1
   have z1 : (i + 1) * 56 ≤ 140737488355328 := by omega
   have z2 : i ≤ 140737488355327 := by omega
   have z3 : ¬ C < i + 1 := by omega
   have e1 : l.take i = l := List.take_of_length_le (by omega)
   have e2 : insL l i b = l ++ [b] := by simp [insL, e1, List.drop_of_length_le (show l.length ≤ i by omega)]
   rw [e1] at hsrc
   rw [e2] at hil hle ⊢
   have hset := (eHh).setFlat l i hn.symm (List.replicate M AVal.undef) [b] (by simp; omega)
   have hfit : i * 7 + 7 ≤ (rowC ceH l).length + M := by omega
   have hfit2 : (i + 1) * 7 ≤ (rowC ceH l).length + M := by omega
   simp [hsrc, hsb, -asrc, z1, z2, z3, hset, hfit, hfit2, -setR, (eHh).rowDis, (eHh).rowScalar, -List.all_eq_true, hle]
 · have h1' : ¬ ((i:Int) = n) := by omega
   have h2' : ¬ ((C:Int) < n + 1) := by omega
   have y1 : (n : Int) + 1 ≤ C := by omega
   have y2 : n + 1 ≤ C := by omega
   have y3 : (0 : Int) ≤ (n : Int) + 1 := by omega
   have y4 : i + 1 ≤ n + 1 := by omega
   have m5 : n + 1 - (i + 1) = n - i := by omega
   have m4 : ¬ n - i = 0 := by omega
   have m6 : min (n + 1 - i) (n - i) = n - i := by omega
   have m7 : min 1 (n + 1 - i) = 1 := by omega
   have hiC : i ≤ C := by omega
   have hp0 : (0 : Int) ≤ (i : Int) + 1 := by omega
   have hi1 : i ≤ n + 1 := by omega
   have hti : (rowC ceH (l.take i)).length = i * 7 := by rw [(eHh).rowLen, List.length_take]; congr 1; omega
   have hdr : (rowC ceH (l.drop i)).length = (n - i) * 7 := by rw [(eHh).rowLen, List.length_drop, hn]
   have hbt : (rowC ceH [b]).take 7 = rowC ceH [b] := List.take_of_length_le (by rw [hbl]; exact Nat.le_refl _)
   obtain ⟨x, hx, hd⟩ := get_drop (l := l) (i := i) (by omega)
   have hl1 : l = l.take (i + 1) ++ l.drop (i + 1) := (List.take_append_drop _ _).symm
   have hsrc3 : asrc [[], rowC ceH l ++ List.replicate M AVal.undef] (.osl 1 (i * 7) (n + 1 - i) (some (C - i)) 7) = some (7, n + 1 - i, rowC ceH (l.drop i) ++ List.replicate 7 .undef) := by
     unfold asrc
     simp only [show ¬ n + 1 - i = 0 by omega, if_false, List.getElem?_cons_zero, List.getElem?_cons_succ, Option.bind_some]
     rw [if_pos (by rw [List.length_append, hfl]; simp; omega), List.drop_append_of_le_length (by omega), (eHh).rowDrop]
     have e : (n + 1 - i) * 7 = (rowC ceH (l.drop i)).length + 7 := by rw [hdr]; omega
     rw [e, List.take_length_add_append, List.take_replicate, show min 7 M = 7 by omega]
   have htk : (rowC ceH (l.drop i) ++ List.replicate 7 AVal.undef).take ((n - i) * 7) = rowC ceH (l.drop i) := by
     rw [← hdr, List.take_left']; rfl
   have hset1 : setR (rowC ceH l ++ List.replicate M AVal.undef) ((i + 1) * 7) (rowC ceH (l.drop i)) = rowC ceH (l.take (i + 1) ++ l.drop i) ++ List.replicate (M - 7) .undef := by
     have := (eHh).setFlat (l.take (i + 1)) (i + 1) (by simp; omega) (rowC ceH (l.drop (i + 1)) ++ List.replicate M AVal.undef) (l.drop i) (by simp [(eHh).rowLen]; omega)
     rw [← List.append_assoc, ← rowC_app, ← hl1] at this
     rw [this]
     congr 1
     have e : (l.drop i).length * 7 = (rowC ceH (l.drop (i + 1))).length + 7 := by rw [(eHh).rowLen]; simp; omega
     rw [e, ← List.drop_drop, List.drop_left]
     simp
   have hset2 : setR (rowC ceH (l.take (i + 1) ++ l.drop i) ++ List.replicate (M - 7) .undef) (i * 7) (rowC ceH [b]) = rowC ceH (insL l i b) ++ List.replicate (M - 7) .undef := by
     rw [rowC_one]
     have := (eHh).setOne (l.take (i + 1) ++ l.drop i) i b (by simp; omega) (List.replicate (M - 7) AVal.undef)
     rw [this]
     congr 2
     rw [insL, List.take_add_one, hx]
     simp [List.set_append, hn, hi, show min i n = i by omega]
   have hf1 : (i + 1) * 7 + (n - i) * 7 ≤ n * 7 + M := by omega
   have hf2 : i * 7 + 7 ≤ (rowC ceH (l.take (i + 1) ++ l.drop i)).length + (M - 7) := by rw [(eHh).rowLen]; simp; omega
   have hne0 : rowC ceH l ++ List.replicate M AVal.undef ≠ [] := by intro e; have := congrArg List.length e; rw [List.length_append, hfl] at this; simp at this; omega
   have h45 := nh_ov (k1 := 7) (xs := [.agg (ceH b)]) (mm := .sh) (id := 1) (off := (i + 1) * 7) (len := n - i) (cap := some (C - (i + 1))) (k2 := 7) (H := [[], rowC ceH l ++ List.replicate M AVal.undef]) rfl hne0
   rw [hn] at hfl
   simp [hp0, y1, y2, y3, y4, m4, m5, m6, m7, hfl, hi, hiC, hi1, h1, h1', h2', w1, w2, hsb, -asrc, -setR, (eHh).rowDis, (eHh).rowScalar, -List.all_eq_true]
   refine ⟨_, _, .inr ⟨rfl, h45⟩, trivial, ?_⟩
   simp [hp0, y1, y2, y3, y4, m4, m5, m6, m7, hfl, hf1, hf2, hset1, hset2, htk, hbt, hi, hiC, hi1, h1, h1', h2', w1, w2, hsb, hsrc3, hdr, -asrc, -setR, (eHh).rowDis, (eHh).rowScalar, -List.all_eq_true, hle]
theorem nh_insR (l : List (Hdr)) (i n : Nat) (hn : l.length = n) (hlen : (n + 1) * 56 ≤ 140737488355328) (hi : i ≤ n) (h0 : 0 < n) (b : Hdr) : CFun Try.prog 100 [.osl 0 0 n none 7, .int .i64 i, .sl 7 [.agg (ceH b)] .sh] [rowC ceH l]
   (.osl 1 0 (n + 1) none 7) [[], rowC ceH (insL l i b)] := by
 have hfl := (eHh).rowLen l
 rw [hn] at hfl
 have hne : rowC ceH l ≠ [] := by
   intro e
   rw [e] at hfl
   simp at hfl
   omega
 refine CFun.reveal (id := 0) (off := 0) (len := n) (k := 7) (cs := rowC ceH l) 0 rfl rfl hne (fun C hC => ?_) (fun C hC h0 => by omega)
 rw [hfl]
 show CFun Try.prog 100 [.osl 0 0 n (some C) 7, .int .i64 i, .sl 7 [.agg (ceH b)] .sh] [rowC ceH l ++ List.replicate (0 + C * 7 - n * 7) .undef] _ _
 by_cases hc : C = n
 · subst hc
   exact nh_insN l i C _ hn hlen hi h0 b
 · have h := nh_insC l i n C (0 + C * 7 - n * 7) hn hlen (by omega) (by rw [Nat.sub_mul]; omega) hi b
   refine CFun.forget (c := some C) (CFun.adopt (p := 0) (cs := rowC ceH l ++ List.replicate (0 + C * 7 - n * 7) .undef) rfl rfl ?_)
   exact h
end Go.Proofs.Ytfngaildaoahpaa

/- Rows of headers: the place of a header. -/
namespace Go.Proofs.Ytfngaildaoahpaa
open Go Go.Am
set_option maxHeartbeats 1000000 in
set_option maxRecDepth 10000 in
theorem x99 (a b : Hdr) : CFun Try.prog 99 [encH a, encH b] [] (.int .i64 (cmpY (keyH a) (keyH b))) [] := by
 refine CFun.intro (tr := []) (fz := []) (n := 10) (rs := [.tmp 4]) Try.func99 rfl (by kernel_rfl) rfl rfl mixed (by kernel_rfl) (by simp) (by simp) ?_
 have h1 := fun H => (c25 a).up' H rfl rfl
 have h2 := fun H => (c25 b).up' H rfl rfl
 have h3 := fun H => (c27 (keyH a) (keyH b)).up' H rfl rfl
 simp
 refine ⟨_, _, .inl (by simpa using h1 _), by simp, ?_⟩
 simp
 refine ⟨_, _, .inl (by simpa using h2 _), by simp, ?_⟩
 simp
 refine ⟨_, _, .inl (by simpa using h3 _), by simp, ?_⟩
 simp
theorem posH_lt {k : LKey} : ∀ {l : List Hdr}, ascH l → ∀ {a : Nat} {x : Hdr}, l[a]? = some x → (ltY (keyH x) k ↔ a < posH l k) := by
 intro l
 induction l with
 | nil => intro _ a x h; simp at h
 | cons y ys ih =>
   intro h a x hx
   simp only [ascH, List.pairwise_cons] at h
   unfold posH
   rw [posF_cons]
   by_cases h1 : ltY (keyH y) k
   · simp only [h1, decide_true, Bool.not_true, Bool.false_eq_true, if_false]
     cases a with
     | zero => simp at hx; subst hx; simp [h1]
     | succ a =>
       have := ih h.2 (a := a) (x := x) (by simpa using hx)
       unfold posH at this
       rw [this]; omega
   · simp only [h1, decide_false, Bool.not_false, if_true]
     cases a with
     | zero => simp at hx; subst hx; simp [h1]
     | succ a =>
       have hm : x ∈ ys := List.mem_of_getElem? (by simpa using hx)
       simp only [Nat.not_lt_zero, iff_false]
       exact fun q => h1 (ltY_trans (h.1 x hm) q)
theorem posH_le (l : List Hdr) (k : LKey) : posH l k ≤ l.length := posF_le _ _
set_option maxHeartbeats 4000000 in
set_option maxRecDepth 10000 in
theorem x98 (l : List Hdr) (n : Nat) (hn : l.length = n) (hlen : n < 1099511627776) (hs : ascH l) (g : Hdr) : CFun Try.prog 98 [.sl 7 (l.map encH) .sh, encH g, .fn 99 [] []] [] (.tup [.int .i64 (posH l (keyH g)), .bool (fndH l (keyH g))]) [] := by
 refine CFun.intro (tr := []) (fz := []) (n := 49) (rs := [.tmp 6, .tmp 7]) Try.func98 rfl (by kernel_rfl) rfl rfl mixed (by kernel_rfl) (by simp) (by simp) ?_
 obtain ⟨k, hk⟩ : ∃ k, keyH g = k := ⟨_, rfl⟩
 rw [hk]
 have hpl := posH_le l k
 have hpf : ∀ a x, l[a]? = some x → (cmpY (keyH x) k < 0 ↔ a < posH l k) := fun a x h => posH_lt hs h
 have hfd : fndH l k = (match l[posH l k]? with | some x => decide (cmpY (keyH x) k = 0) | none => false) := by
   unfold fndH
   cases l[posH l k]? with
   | none => rfl
   | some x => simp only [cmpY_zero]
 rw [hfd]
 generalize posH l k = p at hpl hpf ⊢
 simp [hn]
 refine LoopK.intro (tr := []) mixed (by kernel_rfl) (fun q : Nat × Nat => [(0, .sl 7 (l.map encH) .sh), (2, .fn 99 [] []), (4, .ptr 0 0), (8, .int .i64 n), (9, .int .i64 q.1), (10, .int .i64 q.2)]) (fun _ => [cellsH g]) (fun q => q.1 ≤ p ∧ p ≤ q.2 ∧ q.2 ≤ n) (fun q => q.2 - q.1) (0, n) ?_ ?_ ?_
 · exact ⟨by simp, by simpa [hn] using hpl, by simp⟩
 · simp
 · rintro ⟨i, j⟩ ⟨h1, h2, h3⟩
   simp only at h1 h2 h3
   by_cases hi : i < j
   · obtain ⟨h, hh⟩ : ∃ h, (i + j) / 2 = h := ⟨_, rfl⟩
     obtain ⟨x, hx, _⟩ := get_drop (l := l) (i := h) (by omega)
     have h83 := fun H => (x99 x g).up' H rfl rfl
     rw [hk] at h83
     have hp := hpf h x hx
     have w1 : IntKind.i64.wrap ((i : Int) + j) = i + j := wrap_in (by omega)
     have w2 : IntKind.u64.wrap ((i : Int) + j) = i + j := by rw [wrap_u64]; omega
     have w3 : ((i : Int) + j).fdiv (2 ^ min 1 IntKind.u64.bits) = h := by
       rw [show (2 : Int) ^ min 1 IntKind.u64.bits = 2 from rfl, Int.fdiv_eq_ediv_of_nonneg _ (by omega)]
       omega
     have w4 : IntKind.u64.wrap (h : Int) = h := by rw [wrap_u64]; omega
     have w5 : IntKind.i64.wrap (h : Int) = h := wrap_in (by omega)
     have w6 : IntKind.i64.wrap ((h : Int) + 1) = h + 1 := wrap_in (by omega)
     have hhn : h < n := by omega
     clear hfd hpf
     simp [hi, w1, w2, w3, w4, w5, hx, gE hx, hn, hhn]
     refine ⟨_, _, .inl (by simpa using h83 _), by simp, ?_⟩
     by_cases hb : cmpY (keyH x) k < 0
     · simp [hb, w5, w6]
       exact ⟨h + 1, j, ⟨hp.1 hb, h2, h3⟩, by omega, by simp⟩
     · have hb2 := fun q => hb (hp.2 q)
       simp [hb, w5, w6]
       exact ⟨i, h, ⟨h1, by omega, by omega⟩, by omega, by simp⟩
   · have e1 : i = p := by omega
     subst e1
     by_cases hin : i < n
     · obtain ⟨x, hx, _⟩ := get_drop (l := l) (i := i) (by omega)
       have h83 := fun H => (x99 x g).up' H rfl rfl
       rw [hk] at h83
       clear hfd hpf
       simp [hi, hin, hx, gE hx, hn]
       refine ⟨_, _, .inl (by simpa using h83 _), by simp, ?_⟩
       by_cases hz : cmpY (keyH x) k = 0 <;> simp [hz]
     · have e2 : l[i]? = none := List.getElem?_eq_none (by omega)
       clear hfd hpf
       simp [hi, hin, e2]
end Go.Proofs.Ytfngaildaoahpaa
