/- Flooding, by the reference: Spread. -/
import Derived.Test.YthonenmafbpbkaaFT2
import Derived.Test.YthonenmafbpbkaaFS11
import Derived.Test.YthonenmafbpbkaaFS3
import Derived.Test.YthonenmafbpbkaaFXS3
set_option linter.unusedSimpArgs false
set_option linter.unusedVariables false
namespace Go.Proofs.Ythonenmafbpbkaa
open Go Go.Am
theorem givP_R (fr : Bool) (snd : Int) (h : Hdr) (now : Int) (n : Nbr) : givP fr snd h now n = if n.State < 4 then (n, false) else givR n (fr && decide (n.Router = snd)) h now := by
 unfold givP givR
 cases fr <;> simp
def stpR (sk fr : Bool) (snd : Int) (h : Hdr) (now : Int) (n : Nbr) : Nbr × Bool :=
 if sk = true then (remN n h, false) else if (remN n h).State < 4 then (remN n h, false) else givR (remN n h) (fr && decide ((remN n h).Router = snd)) h now
theorem sprI_R {areas : List Int} {fr : Bool} {snd : Int} {h : Hdr} {now : Int} {s : Ifs} (ho : outB areas s = false) :
   sprI areas fr snd h now s = ({ s with Nb := s.Nb.map fun n => (stpR (skipB fr snd s) fr snd h now n).1 }, s.Nb.any fun n => (stpR (skipB fr snd s) fr snd h now n).2) := by
 unfold sprI
 rw [if_neg (by rw [ho]; simp)]
 cases hs : skipB fr snd s with
 | true => simp [stpR]
 | false =>
   simp only [Bool.false_eq_true, if_false, stpR]
   congr 1
   · congr 1
     refine List.map_congr_left fun n _ => ?_
     rw [givP_R]
   · refine congrArg (fun f => s.Nb.any f) (funext fun n => ?_)
     rw [givP_R]
set_option maxHeartbeats 16000000 in
set_option maxRecDepth 10000 in
theorem g12 (l : List Ifs) (hl : l.length * 120 ≤ 140737488351232) (ok : ∀ s ∈ l, okIf s) (asc : ∀ s ∈ l, ∀ n ∈ s.Nb, ascH n.Una) (areas : List Int) (har : areas.length < 140737488355328) (fr snd : Int) (h : Hdr) (hA : inI h.Age) (now : Int) (hnow : 0 ≤ now ∧ now ≤ 1099511627776) :
   CFun Try.prog 12 [.sl 15 (l.map encIf) .sh, .sl 1 (areas.map encW) .sh, .int .i64 fr, .int .u32 snd, encH h, .int .i64 now] [] (.tup [.sl 15 ((sprL areas fr snd h now 0 l).1.map encIf) .sh, .sl 1 ((sprL areas fr snd h now 0 l).2.map fun i => .int .i64 (i : Nat)) .sh]) [] := by
 refine CFun.intro (tr := [54, 128, 134, 139]) (fz := []) (n := 145) (rs := [.tmp 12, .tmp 13]) Try.func12 rfl (by kernel_rfl) rfl rfl mixed (by kernel_rfl) (by simp) (by simp) ?_
 obtain ⟨n, hn⟩ : ∃ n, n = l.length := ⟨_, rfl⟩
 obtain ⟨ans, hans⟩ : ∃ ans, ans = sprL areas fr snd h now := ⟨_, rfl⟩
 rw [← hans]
 simp
 refine LoopK.intro (tr := [54, 128, 134, 139]) mixed (by kernel_rfl) (fun q : Nat × List Ifs × List Nat => [(0, .sl 15 (l.map encIf) .sh), (1, .sl 1 (areas.map encW) .sh), (2, .int .i64 fr), (3, .int .u32 snd), (5, .int .i64 now), (10, .ptr 0 0), (14, .sl 15 (q.2.1.map encIf) .own), (15, .sl 1 (q.2.2.map fun i => .int .i64 (i : Nat)) .own), (16, .int .i64 q.1)]) (fun _ => [cellsH h])
   (fun q => q.1 ≤ n ∧ q.2.1.length = q.1 ∧ q.2.2.length ≤ q.1 ∧ (ans 0 l).1 = q.2.1 ++ (ans q.1 (l.drop q.1)).1 ∧ (ans 0 l).2 = q.2.2 ++ (ans q.1 (l.drop q.1)).2) (fun q => n - q.1) (0, [], []) ?_ ?_ ?_
 · exact ⟨Nat.zero_le _, rfl, Nat.le_refl _, by simp, by simp⟩
 · simp
 rintro ⟨i, acc, sent⟩ ⟨i1, i2, i3, i4, i5⟩
 simp only at i1 i2 i3 i4 i5 ⊢
 by_cases hi : i < n
 case neg =>
   have hin : i = n := by omega
   subst hin
   have hz : ans i (l.drop i) = ([], []) := by rw [hn, List.drop_length, hans]; rfl
   rw [hz] at i4 i5
   simp only [List.append_nil] at i4 i5
   have hn' : l.length = i := hn.symm
   simp [hn', i4, i5]
 have hiI : (i : Int) < n := by omega
 obtain ⟨s, hs, hd⟩ := get_drop (l := l) (i := i) (by omega)
 rw [hd] at i4 i5
 have oks := ok s (List.mem_of_getElem? hs)
 have ascs := asc s (List.mem_of_getElem? hs)
 have w1 : IntKind.i64.wrap ((i : Int) + 1) = i + 1 := wrap_in (by omega)
 have hcons : ans i (s :: l.drop (i + 1)) = ((sprI areas (decide ((i : Int) = fr)) snd h now s).1 :: (ans (i + 1) (l.drop (i + 1))).1, if (sprI areas (decide ((i : Int) = fr)) snd h now s).2 = true then i :: (ans (i + 1) (l.drop (i + 1))).2 else (ans (i + 1) (l.drop (i + 1))).2) := by
   rw [hans]; rfl
 rw [hcons] at i4 i5
 simp only at i4 i5
 have hn' : l.length = n := hn.symm
 have hil : i < l.length := by omega
 have a1 : (acc.length + 1) * 120 ≤ 140737488355328 := by omega
 have a2 : acc.length ≤ 140737488355327 := by omega
 have a3 : (sent.length + 1) * 8 ≤ 140737488355328 := by omega
 have a4 : sent.length ≤ 140737488355327 := by omega
 have k45 := fun H => (r45 areas _ rfl har s.C4).up' H rfl rfl
 have hout : outB areas s = (!s.Up || (decide (s.Kind = 3) || !(areas.any fun y => decide (s.C4 = y)))) := rfl
 generalize hQ : LoopPost _ _ _ _ _ _ _ = Q
 have hskip : outB areas s = true → ∀ (t' : Nat → AVal) (Z : List (List AVal)), Le 0 ⟨t', cellsH h :: Z⟩ [(0, .sl 15 (l.map encIf) .sh), (1, .sl 1 (areas.map encW) .sh), (2, .int .i64 fr), (3, .int .u32 snd), (5, .int .i64 now), (10, .ptr 0 0), (14, .sl 15 ((acc ++ [s]).map encIf) .own), (15, .sl 1 (sent.map fun i => .int .i64 (i : Nat)) .own), (16, .int .i64 (i + 1 : Nat))] [cellsH h] → Q .normal ⟨t', cellsH h :: Z⟩ := by
   intro ho t' Z hle
   have e1 : sprI areas (decide ((i : Int) = fr)) snd h now s = (s, false) := by unfold sprI; rw [if_pos ho]
   rw [e1] at i4 i5
   rw [← hQ]
   simp only [LoopPost]
   exact ⟨(i + 1, acc ++ [s], sent), ⟨hi, by simp [i2], by simp only; omega, by simpa using i4, by simpa using i5⟩, by simp only; omega, hle⟩
 cases hUp : s.Up with
 | false =>
   simp [hi, hiI, hil, hn', hs, gE hs, hUp, a1, a2, w1]
   refine hskip (by rw [hout, hUp]; rfl) _ _ ?_
   simp [hUp, LeV, LeS]
 | true =>
   by_cases hK : s.Kind = 3
   · simp [hi, hiI, hil, hn', hs, gE hs, hUp, hK, a1, a2, w1]
     refine hskip (by rw [hout, hUp, hK]; rfl) _ _ ?_
     simp [hUp, hK]
   have hb3 : (s.Kind == 3) = false := by simpa using hK
   cases hin2 : (areas.any fun y => decide (s.C4 = y)) with
   | false =>
     rw [hin2] at k45
     simp [hi, hiI, hil, hn', hs, gE hs, hUp, hK, hb3, a1, a2, w1]
     refine ⟨_, _, .inl (by simpa using k45 _), by simp, ?_⟩
     simp [hUp, hK, hb3, a1, a2, w1]
     refine hskip (by rw [hout, hUp, hin2]; simp) _ _ ?_
     simp [hUp]
   | true =>
     rw [hin2] at k45
     have hob : outB areas s = false := by rw [hout, hUp, hin2, decide_eq_false hK]; rfl
     rw [sprI_R hob] at i4 i5
     obtain ⟨sk, hsk⟩ : ∃ sk, sk = skipB (decide ((i : Int) = fr)) snd s := ⟨_, rfl⟩
     rw [← hsk] at i4 i5
     have hsk2 : sk = (decide ((i : Int) = fr) && (decide (s.Kind = 2) && (decide (snd ≠ 0) && (decide (snd = s.DR) || decide (snd = s.BDR))))) := by rw [hsk]; rfl
     obtain ⟨f, hf⟩ : ∃ f, f = stpR sk (decide ((i : Int) = fr)) snd h now := ⟨_, rfl⟩
     rw [← hf] at i4 i5
     obtain ⟨m, hm⟩ : ∃ m, m = s.Nb.length := ⟨_, rfl⟩
     have hm' : s.Nb.length = m := hm.symm
     have hnb := oks.nb
     simp [hi, hiI, hil, hn', hs, gE hs, hUp, hK, hb3, w1]
     refine ⟨_, _, .inl (by simpa using k45 _), by simp, ?_⟩
     generalize hCs : (AVal.int IntKind.i64 s.Kind :: _) = Cs
     have q0 : Cs[0]? = some (.int .i64 s.Kind) := by rw [← hCs]; rfl
     have q10 : Cs[10]? = some (.int .u32 s.DR) := by rw [← hCs]; rfl
     have q11 : Cs[11]? = some (.int .u32 s.BDR) := by rw [← hCs]; rfl
     have q14 : Cs[14]? = some (.sl 15 (s.Nb.map encN) .sh) := by rw [← hCs]; rfl
     have hCs2 : Cs = cellsI s := by rw [← hCs]; simp [hUp]
     have hCle : ∀ n, LeCells n Cs Cs := fun n => treeCells_le n (by rw [hCs2]; rfl)
     clear hCs
     generalize hC : Code.seq (Code.region 10 _ _) _ = C10
     generalize hQ2 : blkK 1 _ = Q2
     have hgo : ∀ t : Nat → AVal, t 0 = .sl 15 (l.map encIf) .sh → t 1 = .sl 1 (areas.map encW) .sh → t 2 = .int .i64 fr → t 3 = .int .u32 snd → t 5 = .int .i64 now → t 10 = .ptr 0 0 → t 14 = .sl 15 (acc.map encIf) .own → t 15 = .sl 1 (sent.map fun i => .int .i64 (i : Nat)) .own → t 16 = .int .i64 i → t 17 = .ptr 1 0 → t 18 = .bool sk → awp Try.prog [54, 128, 134, 139] 145 0 C10 Q2 ⟨t, [cellsH h, Cs]⟩ := by
       intro t t0 t1 t2 t3 t5 t10 t14 t15 t16 t17 t18
       rw [← hC]
       simp
       refine LoopK.intro (tr := [54, 128, 134, 139]) mixed (by kernel_rfl) (fun q : Nat × List Nbr × Bool => [(0, .sl 15 (l.map encIf) .sh), (1, .sl 1 (areas.map encW) .sh), (2, .int .i64 fr), (3, .int .u32 snd), (5, .int .i64 now), (10, .ptr 0 0), (14, .sl 15 (acc.map encIf) .own), (15, .sl 1 (sent.map fun i => .int .i64 (i : Nat)) .own), (16, .int .i64 i), (17, .ptr 1 0), (18, .bool sk), (19, .bool q.2.2), (20, .sl 15 (q.2.1.map encN) .own), (21, .int .i64 q.1)]) (fun _ => [cellsH h, Cs])
         (fun q => q.1 ≤ m ∧ q.2.1 = (s.Nb.take q.1).map (fun n => (f n).1) ∧ q.2.2 = (s.Nb.take q.1).any fun n => (f n).2) (fun q => m - q.1) (0, [], false) ?_ ?_ ?_
       · exact ⟨Nat.zero_le _, by simp, by simp⟩
       · simp [t0, t1, t2, t3, t5, t10, t14, t15, t16, t17, t18, hCle]
       rintro ⟨j, na, an⟩ ⟨j1, j2, j3⟩
       simp only at j1 j2 j3 ⊢
       by_cases hj : j < m
       · obtain ⟨x, hx, hdx⟩ := get_drop (l := s.Nb) (i := j) (by omega)
         have hjI : (j : Int) < m := by omega
         have hjl : j < s.Nb.length := by omega
         have hxm := List.mem_of_getElem? hx
         have okx := oks.nbs x hxm
         have o1 := okx.req
         have o2 := okx.una
         have nal : na.length = j := by rw [j2]; simp; omega
         have b1 : (na.length + 1) * 168 ≤ 140737488355328 := by omega
         have b2 : na.length ≤ 140737488355327 := by omega
         have w2 : IntKind.i64.wrap ((j : Int) + 1) = j + 1 := wrap_in (by omega)
         have k23 := fun H => (c26 h).up' H rfl rfl
         have k46 := fun H => (g46 x h o2).up' H rfl rfl
         have hfx : f x = stpR sk (decide ((i : Int) = fr)) snd h now x := by rw [hf]
         unfold stpR at hfx
         have yU : (remN x h).Una = losN x h := rfl
         have k47 := fun own H => (g47 (remN x h) h now hnow (by show x.Req.length * 56 ≤ _; exact o1) (by rw [yU]; exact Nat.le_trans (Nat.mul_le_mul_right 56 (List.length_filter_le _ _)) o2) (fun z hz => (okx.hreq z hz).2.2.2.2.2.1) hA (by rw [yU]; exact (ascs x hxm).filter _) (by
           intro u hu
           rw [yU] at hu
           have := (List.mem_filter.1 hu).2
           simpa using this) own).up' H rfl rfl
         generalize remN x h = y at *
         have jn1 : na ++ [(f x).1] = (s.Nb.take (j + 1)).map (fun n => (f n).1) := by rw [List.take_add_one, hx, j2]; simp
         have jn2 : (an || (f x).2) = (s.Nb.take (j + 1)).any (fun n => (f n).2) := by rw [List.take_add_one, hx, j3]; simp
         generalize hQ3 : LoopPost _ _ _ _ _ _ _ = Q3
         cases hsk' : sk with
         | true =>
           simp [hj, hjI, hm', hjl, q14, hx, gE hx, b1, b2, w2]
           refine ⟨_, _, .inl (by simpa using k23 _), by simp, ?_⟩
           simp
           refine ⟨_, _, .inl (by simpa using k46 _), by simp, ?_⟩
           simp [b1, b2, w2]
           rw [if_pos hsk'] at hfx
           rw [← hQ3]
           simp only [LoopPost]
           refine ⟨(j + 1, na ++ [(f x).1], an || (f x).2), ⟨hj, jn1, jn2⟩, by simp only; omega, ?_⟩
           rw [hfx]
           simp [hsk', hCle]
         | false =>
           simp [hj, hjI, hm', hjl, q14, hx, gE hx, b1, b2, w2]
           refine ⟨_, _, .inl (by simpa using k23 _), by simp, ?_⟩
           simp
           refine ⟨_, _, .inl (by simpa using k46 _), by simp, ?_⟩
           rw [if_neg (by rw [hsk']; simp)] at hfx
           by_cases c4 : y.State < 4
           · rw [if_pos c4] at hfx
             have c4' : ¬ 4 ≤ y.State := by omega
             simp [c4, c4', b1, b2, w2]
             rw [← hQ3]
             simp only [LoopPost]
             refine ⟨(j + 1, na ++ [(f x).1], an || (f x).2), ⟨hj, jn1, jn2⟩, by simp only; omega, ?_⟩
             rw [hfx]
             simp [hsk', hCle]
           · rw [if_neg c4] at hfx
             have c4' : 4 ≤ y.State := by omega
             have hown : (decide ((i : Int) = fr) && decide (y.Router = snd)) = decide ((i : Int) = fr ∧ y.Router = snd) := by simp
             rw [hown] at hfx
             have k := k47 (decide ((i : Int) = fr ∧ y.Router = snd))
             generalize givR y (decide ((i : Int) = fr ∧ y.Router = snd)) h now = R at *
             have hEnd : ∀ (t' : Nat → AVal) (Z : List (List AVal)), Le 0 ⟨t', cellsH h :: Cs :: Z⟩ [(0, .sl 15 (l.map encIf) .sh), (1, .sl 1 (areas.map encW) .sh), (2, .int .i64 fr), (3, .int .u32 snd), (5, .int .i64 now), (10, .ptr 0 0), (14, .sl 15 (acc.map encIf) .own), (15, .sl 1 (sent.map fun i => .int .i64 (i : Nat)) .own), (16, .int .i64 i), (17, .ptr 1 0), (18, .bool sk), (19, .bool (an || R.2)), (20, .sl 15 ((na ++ [R.1]).map encN) .own), (21, .int .i64 (j + 1 : Nat))] [cellsH h, Cs] → Q3 .normal ⟨t', cellsH h :: Cs :: Z⟩ := by
               intro t' Z hle
               rw [← hQ3]
               simp only [LoopPost]
               exact ⟨(j + 1, na ++ [R.1], an || R.2), ⟨hj, by rw [← hfx]; exact jn1, by rw [← hfx]; exact jn2⟩, by simp only; omega, hle⟩
             by_cases c6 : (i : Int) = fr
             · by_cases c7 : y.Router = snd
               · rw [decide_eq_true ⟨c6, c7⟩] at k
                 simp [c4, c4', c6, c7]
                 refine ⟨_, _, .inl (by simpa [c7] using k _), by simp, ?_⟩
                 cases an <;> simp [b1, b2, w2]
                 all_goals
                   refine hEnd _ _ ?_
                   simp [hsk', hCle, c6]
               · rw [decide_eq_false (fun q => c7 q.2)] at k
                 have c7b : (y.Router == snd) = false := by simpa using c7
                 simp [c4, c4', c6, c7, c7b]
                 refine ⟨_, _, .inl (by simpa using k _), by simp, ?_⟩
                 cases an <;> simp [b1, b2, w2]
                 all_goals
                   refine hEnd _ _ ?_
                   simp [hsk', hCle, c6]
             · rw [decide_eq_false (fun q => c6 q.1)] at k
               simp [c4, c4', c6]
               refine ⟨_, _, .inl (by simpa using k _), by simp, ?_⟩
               cases an <;> simp [b1, b2, w2]
               all_goals
                 refine hEnd _ _ ?_
                 simp [hsk', hCle]
       · have hjm : j = m := by omega
         rw [hjm] at j2 j3
         rw [hm, List.take_length] at j2 j3
         have hjN : ¬ j < m := hj
         have e6 : (sprI areas (decide ((i : Int) = fr)) snd h now s) = ({ s with Nb := na }, an) := by
           rw [sprI_R hob, j2, j3, ← hsk, ← hf]
         rw [hCs2]
         cases an with
         | false =>
           simp [hjm, hm', a1, a2, w1]
           rw [← hQ2]
           simp [w1]
           rw [← hQ]
           simp only [LoopPost]
           refine ⟨(i + 1, acc ++ [{ s with Nb := na }], sent), ⟨hi, by simp [i2], by simp only; omega, by rw [i4]; simp [← j2], by rw [i5, ← j3]; simp⟩, by simp only; omega, ?_⟩
           simp [hUp]
         | true =>
           simp [hjm, hm', a1, a2, a3, a4, w1]
           rw [← hQ2]
           simp [w1]
           rw [← hQ]
           simp only [LoopPost]
           refine ⟨(i + 1, acc ++ [{ s with Nb := na }], sent ++ [i]), ⟨hi, by simp [i2], by simp; omega, by rw [i4]; simp [← j2], by rw [i5, ← j3]; simp⟩, by simp only; omega, ?_⟩
           simp [hUp]
     by_cases c1 : (i : Int) = fr
     · by_cases c2 : s.Kind = 2
       · by_cases c3 : snd = 0
         · have hb : sk = false := by rw [hsk2, decide_eq_true c1, c2, c3]; simp
           subst hb
           simp [q0, q10, q11, c1, c2, c3]
           refine hgo _ ?_ ?_ ?_ ?_ ?_ ?_ ?_ ?_ ?_ ?_ ?_
           all_goals simp [c1, c3]
         · have c3' : (snd == 0) = false := by simpa using c3
           by_cases c4 : snd = s.DR
           · have hb : sk = true := by rw [hsk2, decide_eq_true c1, c2, decide_eq_true c3, decide_eq_true c4]; simp
             subst hb
             simp [q0, q10, q11, c1, c2, c3, c3', ← c4]
             refine hgo _ ?_ ?_ ?_ ?_ ?_ ?_ ?_ ?_ ?_ ?_ ?_
             all_goals simp [c1, ← c4]
           · by_cases c5 : snd = s.BDR
             · have hb : sk = true := by rw [hsk2, decide_eq_true c1, c2, decide_eq_true c3, decide_eq_true c5]; simp
               subst hb
               have c4' : (s.BDR == s.DR) = false := by rw [← c5]; simpa using c4
               simp [q0, q10, q11, c1, c2, c3, c3', c4, c4', ← c5]
               refine hgo _ ?_ ?_ ?_ ?_ ?_ ?_ ?_ ?_ ?_ ?_ ?_
               all_goals simp [c1, ← c5]
             · have hb : sk = false := by rw [hsk2, decide_eq_false c4, decide_eq_false c5]; simp
               subst hb
               simp [q0, q10, q11, c1, c2, c3, c3', c4, c5]
               refine hgo _ ?_ ?_ ?_ ?_ ?_ ?_ ?_ ?_ ?_ ?_ ?_
               all_goals simp [c1, c5]
       · have hb : sk = false := by rw [hsk2, decide_eq_false c2]; simp
         subst hb
         simp [q0, q10, q11, c1, c2]
         refine hgo _ ?_ ?_ ?_ ?_ ?_ ?_ ?_ ?_ ?_ ?_ ?_
         all_goals simp [c1]
     · have hb : sk = false := by rw [hsk2, decide_eq_false c1]; simp
       subst hb
       simp [q0, q10, q11, c1]
       refine hgo _ ?_ ?_ ?_ ?_ ?_ ?_ ?_ ?_ ?_ ?_ ?_
       all_goals simp
end Go.Proofs.Ythonenmafbpbkaa

/- States that are the same; numbers that are the same. -/
namespace Go.Proofs.Ythonenmafbpbkaa
open Go Go.Am
set_option maxHeartbeats 4000000 in
set_option maxRecDepth 10000 in
theorem g88 (l : List Nbr) (n : Nat) (hn : l.length = n) (hlen : n < 8796093022208) (ok : ∀ x ∈ l, x.Lst.length < 8796093022208 ∧ x.Sent.length < 8796093022208 ∧ x.Req.length < 8796093022208 ∧ x.Una.length < 8796093022208) : CFun Try.prog 88 [.sl 15 (l.map encN) .sh, .sl 15 (l.map encN) .sh] [] (.bool true) [] := by
 refine CFun.intro (tr := []) (fz := []) (n := 27) (rs := [.tmp 4]) Try.func88 rfl (by kernel_rfl) rfl rfl mixed (by kernel_rfl) (by simp) (by simp) ?_
 simp [hn]
 refine LoopK.intro (tr := []) mixed (by kernel_rfl) (fun i : Nat => [(0, .sl 15 (l.map encN) .sh), (1, .sl 15 (l.map encN) .sh), (5, .int .i64 i)]) (fun _ => []) (fun i => i ≤ n) (fun i => n - i) 0 (Nat.zero_le _) ?_ ?_
 · simp
 intro i hin
 by_cases hi : i < n
 · have hil : i < l.length := by omega
   have hx : l[i]? = some l[i] := List.getElem?_eq_getElem hil
   obtain ⟨x, hx'⟩ : ∃ x, x = l[i] := ⟨_, rfl⟩
   rw [← hx'] at hx
   obtain ⟨o1, o2, o3, o4⟩ := ok x (List.mem_of_getElem? hx)
   have k15 := fun H => (x12 x o1 o2 o3 o4).up' H rfl rfl
   have w1 : IntKind.i64.wrap ((i : Int) + 1) = i + 1 := wrap_in (by omega)
   simp [hi, hn, hx, gE hx]
   refine ⟨_, _, .inl (by simpa using k15 _), by simp, ?_⟩
   simp [w1]
   exact ⟨i + 1, hi, by omega, by simp⟩
 · simp [hi, hn]
set_option maxHeartbeats 4000000 in
set_option maxRecDepth 10000 in
theorem g48 (s : Ifs) (hlen : s.Nb.length < 8796093022208) (ok : ∀ x ∈ s.Nb, x.Lst.length < 8796093022208 ∧ x.Sent.length < 8796093022208 ∧ x.Req.length < 8796093022208 ∧ x.Una.length < 8796093022208) : CFun Try.prog 48 [encIf s, encIf s] [] (.bool true) [] := by
 refine CFun.intro (tr := []) (fz := []) (n := 52) (rs := [.tmp 4]) Try.func48 rfl (by kernel_rfl) rfl rfl mixed (by kernel_rfl) (by simp) (by simp) ?_
 have k := fun H => (g88 s.Nb _ rfl hlen ok).up' H rfl rfl
 simp
 refine ⟨_, _, .inl (by simpa using k _), by simp, ?_⟩
 simp
set_option maxHeartbeats 4000000 in
set_option maxRecDepth 10000 in
theorem g13 (l : List Ifs) (n : Nat) (hn : l.length = n) (hlen : n < 8796093022208) (ok : ∀ s ∈ l, s.Nb.length < 8796093022208 ∧ ∀ x ∈ s.Nb, x.Lst.length < 8796093022208 ∧ x.Sent.length < 8796093022208 ∧ x.Req.length < 8796093022208 ∧ x.Una.length < 8796093022208) : CFun Try.prog 13 [.sl 15 (l.map encIf) .sh, .sl 15 (l.map encIf) .sh] [] (.bool true) [] := by
 refine CFun.intro (tr := []) (fz := []) (n := 27) (rs := [.tmp 4]) Try.func13 rfl (by kernel_rfl) rfl rfl mixed (by kernel_rfl) (by simp) (by simp) ?_
 simp [hn]
 refine LoopK.intro (tr := []) mixed (by kernel_rfl) (fun i : Nat => [(0, .sl 15 (l.map encIf) .sh), (1, .sl 15 (l.map encIf) .sh), (5, .int .i64 i)]) (fun _ => []) (fun i => i ≤ n) (fun i => n - i) 0 (Nat.zero_le _) ?_ ?_
 · simp
 intro i hin
 by_cases hi : i < n
 · have hil : i < l.length := by omega
   have hx : l[i]? = some l[i] := List.getElem?_eq_getElem hil
   obtain ⟨x, hx'⟩ : ∃ x, x = l[i] := ⟨_, rfl⟩
   rw [← hx'] at hx
   obtain ⟨o1, o2⟩ := ok x (List.mem_of_getElem? hx)
   have k15 := fun H => (g48 x o1 o2).up' H rfl rfl
   have w1 : IntKind.i64.wrap ((i : Int) + 1) = i + 1 := wrap_in (by omega)
   simp [hi, hn, hx, gE hx]
   refine ⟨_, _, .inl (by simpa using k15 _), by simp, ?_⟩
   simp [w1]
   exact ⟨i + 1, hi, by omega, by simp⟩
 · simp [hi, hn]
set_option maxHeartbeats 4000000 in
set_option maxRecDepth 10000 in
theorem g14 (l : List Nat) (n : Nat) (hn : l.length = n) (hlen : n < 8796093022208) : CFun Try.prog 14 [.sl 1 (l.map fun i => .int .i64 (i : Nat)) .sh, .sl 1 (l.map fun i => .int .i64 (i : Nat)) .sh] [] (.bool true) [] := by
 refine CFun.intro (tr := []) (fz := []) (n := 26) (rs := [.tmp 4]) Try.func14 rfl (by kernel_rfl) rfl rfl mixed (by kernel_rfl) (by simp) (by simp) ?_
 simp [hn]
 refine LoopK.intro (tr := []) mixed (by kernel_rfl) (fun i : Nat => [(0, .sl 1 (l.map fun i => .int .i64 (i : Nat)) .sh), (1, .sl 1 (l.map fun i => .int .i64 (i : Nat)) .sh), (5, .int .i64 i)]) (fun _ => []) (fun i => i ≤ n) (fun i => n - i) 0 (Nat.zero_le _) ?_ ?_
 · simp
 intro i hin
 by_cases hi : i < n
 · have hil : i < l.length := by omega
   have hx : l[i]? = some l[i] := List.getElem?_eq_getElem hil
   obtain ⟨x, hx'⟩ : ∃ x, x = l[i] := ⟨_, rfl⟩
   rw [← hx'] at hx
   have w1 : IntKind.i64.wrap ((i : Int) + 1) = i + 1 := wrap_in (by omega)
   simp [hi, hn, hx, gE hx, w1]
   exact ⟨i + 1, hi, by omega, by simp⟩
 · simp [hi, hn]
end Go.Proofs.Ythonenmafbpbkaa

/- Flooding: no interfaces; ordered lists; the law FloodSpreads. -/
namespace Go.Proofs.Ythonenmafbpbkaa
open Go Go.Am
set_option maxHeartbeats 4000000 in
set_option maxRecDepth 10000 in
theorem r37e : CFun Try.prog 37 [.sl 15 [] .sh] [] (.sl 15 [] .full) [] := by
 refine CFun.intro (tr := [100009]) (fz := []) (n := 51) (rs := [.tmp 2]) Try.func37 rfl (by kernel_rfl) rfl rfl mixed (by kernel_rfl) (by simp) (by simp) ?_
 simp
 refine LoopK.intro (tr := [100009]) mixed (by kernel_rfl) (fun _ : Unit => [(3, .sl 15 [] .full), (14, .int .i64 0), (15, .int .i64 0)]) (fun _ => []) (fun _ => True) (fun _ => 0) () trivial ?_ ?_
 · simp
 · simp
set_option maxHeartbeats 4000000 in
set_option maxRecDepth 10000 in
theorem r11e (areas : List Int) (fr snd : Int) (h : Hdr) (now : Int) :
   CFun Try.prog 11 [.sl 15 [] .sh, .sl 1 (areas.map encW) .sh, .int .i64 fr, .int .u32 snd, encH h, .int .i64 now] [] (.tup [.sl 15 [] .sh, .sl 1 [] .sh]) [] := by
 refine CFun.intro (tr := [150, 200104, 600017]) (fz := []) (n := 157) (rs := [.tmp 12, .tmp 13]) Try.func11 rfl (by kernel_rfl) rfl rfl mixed (by kernel_rfl) (by simp) (by simp) ?_
 have k37 := fun H => r37e.up' H rfl rfl
 simp
 refine ⟨_, _, .inl (by simpa using k37 _), by simp, ?_⟩
 simp
 refine LoopK.intro (tr := [150, 200104, 600017]) mixed (by kernel_rfl) (fun _ : Unit => [(14, .sl 15 [] .full), (15, .sl 1 [] .full), (26, .int .i64 0), (27, .int .i64 0)]) (fun _ => []) (fun _ => True) (fun _ => 0) () trivial ?_ ?_
 · simp [LeV, LeS]
 · simp [LeV, LeS]
theorem r11a (l : List Ifs) (hl : l.length * 120 ≤ 140737488351232) (ok : ∀ s ∈ l, okIf s) (asc : ∀ s ∈ l, ∀ n ∈ s.Nb, ascH n.Una) (areas : List Int) (har : areas.length < 140737488355328) (fr snd : Int) (h : Hdr) (now : Int) (hnow : 0 ≤ now ∧ now ≤ 1099511627776) :
   CFun Try.prog 11 [.sl 15 (l.map encIf) .sh, .sl 1 (areas.map encW) .sh, .int .i64 fr, .int .u32 snd, encH h, .int .i64 now] [] (.tup [.sl 15 ((sprL areas fr snd h now 0 l).1.map encIf) .sh, .sl 1 ((sprL areas fr snd h now 0 l).2.map fun i => .int .i64 (i : Nat)) .sh]) [] := by
 by_cases hne : l = []
 · subst hne
   exact r11e areas fr snd h now
 · exact r11 l hne hl ok asc areas har fr snd h now hnow
def okOrd (l : List Ifs) : Bool := l.all fun s => s.Nb.all fun n => ordH n.Una && ordH n.Req
set_option maxHeartbeats 8000000 in
set_option maxRecDepth 10000 in
theorem g9 (l : List Ifs) (n : Nat) (hn : l.length = n) (hlen : n < 8796093022208) (ok : ∀ s ∈ l, okIf s) : CFun Try.prog 9 [.sl 15 (l.map encIf) .sh] [] (.bool (okOrd l)) [] := by
 refine CFun.intro (tr := []) (fz := []) (n := 40) (rs := [.tmp 2]) Try.func9 rfl (by kernel_rfl) rfl rfl mixed (by kernel_rfl) (by simp) (by simp) ?_
 generalize hq : okOrd l = q
 simp
 refine LoopK.intro (tr := []) mixed (by kernel_rfl) (fun i : Nat => [(0, .sl 15 (l.map encIf) .sh), (3, .int .i64 i)]) (fun _ => []) (fun i => i ≤ n ∧ okOrd (l.drop i) = q) (fun i => n - i) 0 ?_ ?_ ?_
 · exact ⟨Nat.zero_le _, by simpa using hq⟩
 · simp
 rintro i ⟨i1, i2⟩
 by_cases hi : i < n
 · obtain ⟨s, hs, hd⟩ := get_drop (l := l) (i := i) (by omega)
   have hil : i < l.length := by omega
   have oks := ok s (List.mem_of_getElem? hs)
   have onb := oks.nb
   have w1 : IntKind.i64.wrap ((i : Int) + 1) = i + 1 := wrap_in (by omega)
   rw [hd] at i2
   have i3 : ((s.Nb.all fun n => ordH n.Una && ordH n.Req) && okOrd (l.drop (i + 1))) = q := by simpa [okOrd] using i2
   obtain ⟨m, hm⟩ : ∃ m, m = s.Nb.length := ⟨_, rfl⟩
   have hm' : s.Nb.length = m := hm.symm
   generalize hQ : LoopPost _ _ _ _ _ _ _ = Q
   simp [hi, hn]
   refine LoopK.intro (tr := []) mixed (by kernel_rfl) (fun j : Nat => [(0, .sl 15 (l.map encIf) .sh), (3, .int .i64 i), (4, .int .i64 j)]) (fun _ => []) (fun j => j ≤ m ∧ (((s.Nb.drop j).all fun n => ordH n.Una && ordH n.Req) && okOrd (l.drop (i + 1))) = q) (fun j => m - j) 0 ?_ ?_ ?_
   · exact ⟨Nat.zero_le _, by simpa using i3⟩
   · simp
   rintro j ⟨j1, j2⟩
   by_cases hj : j < m
   · obtain ⟨x, hx, hdx⟩ := get_drop (l := s.Nb) (i := j) (by omega)
     have hjl : j < s.Nb.length := by omega
     have okx := oks.nbs x (List.mem_of_getElem? hx)
     have o1 := okx.req
     have o2 := okx.una
     have w2 : IntKind.i64.wrap ((j : Int) + 1) = j + 1 := wrap_in (by omega)
     have ka := fun H => (x19 x.Una _ rfl (by omega)).up' H rfl rfl
     have kb := fun H => (x19 x.Req _ rfl (by omega)).up' H rfl rfl
     rw [hdx, List.all_cons] at j2
     generalize ordH x.Una = ba at *
     generalize ordH x.Req = bb at *
     simp [hi, hn, hil, hs, gE hs, hj, hm', hjl, hx, gE hx]
     refine ⟨_, _, .inl (by simpa using ka _), by simp, ?_⟩
     cases ba with
     | false =>
       simp at j2
       subst j2
       simp
       rw [← hQ]
       simp
     | true =>
       simp
       refine ⟨_, _, .inl (by simpa using kb _), by simp, ?_⟩
       cases bb with
       | false =>
         simp at j2
         subst j2
         simp
         rw [← hQ]
         simp
       | true =>
         simp [w2]
         exact ⟨j + 1, ⟨hj, by simpa using j2⟩, by omega, by simp⟩
   · rw [List.drop_eq_nil_of_le (by omega)] at j2
     simp at j2
     have hjm : j = m := by omega
     simp [hi, hn, hil, hs, gE hs, hjm, hm', w1]
     rw [← hQ]
     simp only [LoopPost]
     exact ⟨i + 1, ⟨hi, j2⟩, by omega, by simp⟩
 · rw [List.drop_eq_nil_of_le (by omega)] at i2
   have : true = q := by simpa [okOrd] using i2
   subst this
   simp [hi, hn]
theorem okOrd_asc {l : List Ifs} (h : okOrd l = true) : ∀ s ∈ l, ∀ n ∈ s.Nb, ascH n.Una ∧ ascH n.Req := by
 intro s hs n hn
 have h1 := List.all_eq_true.1 h s hs
 have h2 := List.all_eq_true.1 h1 n hn
 rw [Bool.and_eq_true] at h2
 exact ⟨ordH_asc h2.1, ordH_asc h2.2⟩
end Go.Proofs.Ythonenmafbpbkaa

/- The law FloodSpreads. -/
namespace Go.Proofs.Ythonenmafbpbkaa
open Go Go.Am
theorem lessR_len (n : Nbr) (i : Nat) : (lessR n i).Lst = n.Lst ∧ (lessR n i).Sent = n.Sent ∧ (lessR n i).Una = n.Una ∧ (lessR n i).Req.length ≤ n.Req.length := by
 have h := List.length_eraseIdx_le n.Req i
 unfold lessR
 split <;> exact ⟨rfl, rfl, rfl, h⟩
theorem reqN_len (n : Nbr) (h : Hdr) : (reqN n h).1.Lst = n.Lst ∧ (reqN n h).1.Sent = n.Sent ∧ (reqN n h).1.Una = n.Una ∧ (reqN n h).1.Req.length ≤ n.Req.length := by
 unfold reqN
 split
 · exact ⟨rfl, rfl, rfl, Nat.le_refl _⟩
 · split
   · exact ⟨rfl, rfl, rfl, Nat.le_refl _⟩
   · split
     · exact ⟨rfl, rfl, rfl, Nat.le_refl _⟩
     · exact lessR_len _ _
def okLs (n : Nbr) : Prop := n.Lst.length < 8796093022208 ∧ n.Sent.length < 8796093022208 ∧ n.Req.length < 8796093022208 ∧ n.Una.length < 8796093022208
theorem okLs_rem {n : Nbr} {h : Hdr} (hn : okN n) : okLs (remN n h) := by
 have h1 := hn.lst
 have h2 := hn.sent
 have h3 := hn.req
 have h4 := hn.una
 have h5 : (remN n h).Una.length ≤ n.Una.length := List.length_filter_le _ _
 refine ⟨?_, ?_, ?_, ?_⟩
 · show n.Lst.length < _; omega
 · show n.Sent.length < _; omega
 · show n.Req.length < _; omega
 · omega
theorem okLs_giv {n : Nbr} {h : Hdr} {fr : Bool} {snd now : Int} (hn : okN n) : okLs (givP fr snd h now (remN n h)).1 := by
 have h1 := hn.lst
 have h2 := hn.sent
 have h3 := hn.req
 have h4 := hn.una
 have h5 : (remN n h).Una.length ≤ n.Una.length := List.length_filter_le _ _
 have h6 : (remN n h).Req = n.Req := rfl
 have h7 : (remN n h).Lst = n.Lst := rfl
 have h8 : (remN n h).Sent = n.Sent := rfl
 obtain ⟨r1, r2, r3, r4⟩ := reqN_len (remN n h) h
 unfold givP
 split
 · exact okLs_rem hn
 · split
   · exact ⟨by rw [r1, h7]; omega, by rw [r2, h8]; omega, by show (reqN (remN n h) h).1.Req.length < _; rw [h6] at r4; omega, by rw [r3]; omega⟩
   · split
     · exact ⟨by rw [r1, h7]; omega, by rw [r2, h8]; omega, by show (reqN (remN n h) h).1.Req.length < _; rw [h6] at r4; omega, by rw [r3]; omega⟩
     · refine ⟨?_, ?_, ?_, ?_⟩
       · show (reqN (remN n h) h).1.Lst.length < _; rw [r1, h7]; omega
       · show (reqN (remN n h) h).1.Sent.length < _; rw [r2, h8]; omega
       · show (reqN (remN n h) h).1.Req.length < _; rw [h6] at r4; omega
       · show (insL (reqN (remN n h) h).1.Una _ h).length < _
         rw [insL_len (posH_le _ _), r3]; omega
theorem sprI_ok {areas : List Int} {fr : Bool} {snd : Int} {h : Hdr} {now : Int} {s : Ifs} (oks : okIf s) : (sprI areas fr snd h now s).1.Nb.length = s.Nb.length ∧ ∀ x ∈ (sprI areas fr snd h now s).1.Nb, okLs x := by
 unfold sprI
 split
 · refine ⟨rfl, fun x hx => ?_⟩
   have h0 := oks.nbs x hx
   have h1 := h0.lst
   have h2 := h0.sent
   have h3 := h0.req
   have h4 := h0.una
   exact ⟨by omega, by omega, by omega, by omega⟩
 · split
   · refine ⟨by simp, fun x hx => ?_⟩
     obtain ⟨n, hn, rfl⟩ := List.mem_map.1 hx
     exact okLs_rem (oks.nbs n hn)
   · refine ⟨by simp, fun x hx => ?_⟩
     obtain ⟨n, hn, rfl⟩ := List.mem_map.1 hx
     exact okLs_giv (oks.nbs n hn)
theorem sprL_ok {areas : List Int} {fr : Int} {snd : Int} {h : Hdr} {now : Int} : ∀ {l : List Ifs} {i : Nat}, (∀ s ∈ l, okIf s) → (sprL areas fr snd h now i l).1.length = l.length ∧ (sprL areas fr snd h now i l).2.length ≤ l.length ∧
   ∀ s ∈ (sprL areas fr snd h now i l).1, s.Nb.length < 8796093022208 ∧ ∀ x ∈ s.Nb, okLs x
 | [], i, _ => by simp [sprL]
 | s :: l, i, hs => by
   obtain ⟨h1, h2, h3⟩ := sprL_ok (l := l) (i := i + 1) (areas := areas) (fr := fr) (snd := snd) (h := h) (now := now) fun x hx => hs x (List.mem_cons_of_mem _ hx)
   have h4 := sprI_ok (areas := areas) (fr := decide ((i : Int) = fr)) (snd := snd) (h := h) (now := now) (hs s (by simp))
   have hb := (hs s (by simp)).nb
   simp only [sprL]
   refine ⟨by simp [h1], ?_, ?_⟩
   · split
     · simp [h2]
     · simp; omega
   · intro x hx
     rcases List.mem_cons.1 hx with rfl | hx
     · exact ⟨by rw [h4.1]; omega, h4.2⟩
     · exact h3 x hx
set_option maxHeartbeats 8000000 in
set_option maxRecDepth 10000 in
theorem g3 (l : List Ifs) (hl : l.length * 120 ≤ 140737488351232) (ok : ∀ s ∈ l, okIf s) (areas : List Int) (har : areas.length < 140737488355328) (fr snd : Int) (h : Hdr) (hA : inI h.Age) (now : Int) :
   CFun Try.prog 3 [.sl 15 (l.map encIf) .sh, .sl 1 (areas.map encW) .sh, .int .i64 fr, .int .u32 snd, encH h, .int .i64 now] [] (.bool true) [] := by
 refine CFun.intro (tr := []) (fz := []) (n := 60) (rs := [.tmp 12]) Try.func3 rfl (by kernel_rfl) rfl rfl mixed (by kernel_rfl) (by simp) (by simp) ?_
 have k10 := fun H => f10.up' H rfl rfl
 have k9 := fun H => (g9 l _ rfl (by omega) ok).up' H rfl rfl
 by_cases c1 : now < 0
 · simp [c1]
   refine ⟨_, _, .inl (by simpa using k10 _), by simp, ?_⟩
   simp
 by_cases c2 : 1099511627776 < now
 · simp [c1, c2]
   refine ⟨_, _, .inl (by simpa using k10 _), by simp, ?_⟩
   simp
 cases ho : okOrd l with
 | false =>
   rw [ho] at k9
   simp [c1, c2]
   refine ⟨_, _, .inl (by simpa using k9 _), by simp, ?_⟩
   simp
   refine ⟨_, _, .inl (by simpa using k10 _), by simp, ?_⟩
   simp
 | true =>
   rw [ho] at k9
   have asc := fun s hs n hn => (okOrd_asc ho s hs n hn).1
   have k11 := fun H => (r11a l hl ok asc areas har fr snd h now ⟨by omega, by omega⟩).up' H rfl rfl
   have k12 := fun H => (g12 l hl ok asc areas har fr snd h hA now ⟨by omega, by omega⟩).up' H rfl rfl
   obtain ⟨s1, s2, s3⟩ := sprL_ok (areas := areas) (fr := fr) (snd := snd) (h := h) (now := now) (l := l) (i := 0) ok
   generalize sprL areas fr snd h now 0 l = R at *
   have k13 := fun H => (g13 R.1 _ rfl (by omega) s3).up' H rfl rfl
   have k14 := fun H => (g14 R.2 _ rfl (by omega)).up' H rfl rfl
   clear s3 asc ok
   simp [c1, c2]
   refine ⟨_, _, .inl (by simpa using k9 _), by simp, ?_⟩
   simp
   refine ⟨_, _, .inl (by simpa using k11 _), by simp, ?_⟩
   simp
   refine ⟨_, _, .inl (by simpa using k12 _), by simp, ?_⟩
   simp
   refine ⟨_, _, .inl (by simpa using k13 _), by simp, ?_⟩
   simp
   refine ⟨_, _, .inl (by simpa using k14 _), by simp, ?_⟩
   simp
   refine ⟨_, _, .inl (by simpa using k10 _), by simp, ?_⟩
   simp
def tyWs : Bool × List CTy := (false, [.sl false 4 [.int .u32]])
theorem rd_Ws {x : AVal} (h : RdA tyWs x) : ∃ l : List Int, x = .sl 1 (l.map encW) .sh ∧ l.length * 4 ≤ 140737488351232 := by
 obtain ⟨cs, h1, h2⟩ := h
 obtain ⟨l, r, rfl, h, z⟩ := Rds_sl (enc := encW) h2 (fun y cs e h => by
   obtain ⟨a1, r, rfl, h, _⟩ := Rds_int h
   obtain rfl := Rds_nil h
   simp at e
   exact ⟨a1, e.symm⟩)
 obtain rfl := Rds_nil h
 refine ⟨l, ?_, by simpa [reachBytes] using z⟩
 rw [if_neg (by simp [tyWs])] at h1
 rw [List.cons.inj h1 |>.1.symm]
 rfl
end Go.Proofs.Ythonenmafbpbkaa

/- Ack for a neighbor whose list may have grown by one. -/
namespace Go.Proofs.Ythonenmafbpbkaa
open Go Go.Am
structure okM (n : Nbr) : Prop where
  lst : n.Lst.length * 56 ≤ 140737488351232
  sent : n.Sent.length * 56 ≤ 140737488351232
  req : n.Req.length * 56 ≤ 140737488351232
  una : n.Una.length * 56 ≤ 140737488355328
set_option maxHeartbeats 2000000 in
set_option maxRecDepth 10000 in
theorem b49r (n : Nbr) (ok : okM n) (hne : n.Una ≠ []) : CFun Try.prog 49 [encN n] [] (.mix [.int .u32 n.Router, .int .u32 n.Addr, .int .i64 n.Pri, .int .u32 n.DR, .int .u32 n.BDR, .int .i64 n.State, .int .i64 n.Til, .bool n.Master, .int .i64 n.Seq,
   .sl 7 (n.Lst.map encH) .sh, .sl 7 (n.Sent.map encH) .sh, .bool n.More, .sl 7 (n.Req.map encH) .sh, .osl 2 0 n.Una.length none 7, .int .i64 n.Rsd]) [[], [], rowC ceH n.Una] := by
 refine CFun.intro (tr := []) (fz := []) (n := 20) (rs := [.cell 2 38]) Try.func49 rfl (by kernel_rfl) rfl rfl mixed (by kernel_rfl) (by simp) (by simp) ?_
 have hl1 := ok.lst
 have hl2 := ok.sent
 have hl3 := ok.req
 have hl4 := ok.una
 have k1 := fun H => (ch_row n.Lst (by omega)).up' H rfl rfl
 have k2 := fun H => (ch_row n.Sent (by omega)).up' H rfl rfl
 have k3 := fun H => (ch_row n.Req (by omega)).up' H rfl rfl
 have k4 : ∀ H, CFun Try.prog 59 [.sl 7 (n.Una.map encH) .sh] H (.osl H.length 0 n.Una.length none 7) (H ++ [rowC ceH n.Una]) := fun H => (ch_clr n.Una hne (by omega)).upNew H (eHh.rowNoid n.Una) rfl rfl
 have hle := fun k => eHh.rowLe k n.Una
 simp
 refine ⟨_, _, .inl (k1 _), by simp, ?_⟩
 simp
 refine ⟨_, _, .inl (k2 _), by simp, ?_⟩
 simp
 refine ⟨_, _, .inl (k3 _), by simp, ?_⟩
 simp
 refine ⟨_, _, .inl (k4 _), by simp, ?_⟩
 simp [hle]
set_option maxHeartbeats 8000000 in
set_option maxRecDepth 10000 in
theorem b16r (n : Nbr) (ok : okM n) (hne : n.Una ≠ []) (l : List Hdr) (hl : l.length < 8796093022208) : CFun Try.prog 16 [encN n, .sl 7 (l.map encH) .sh] [] (encN (ackN n l)) [] := by
 refine CFun.intro (tr := [3000003000002, 4500013000011]) (fz := []) (n := 23) (rs := [.cell 4 38]) Try.func16 rfl (by kernel_rfl) rfl rfl mixed (by kernel_rfl) (by simp) (by simp) ?_
 have hlen4 := ok.una
 have h0 : 0 < n.Una.length := List.length_pos_iff.2 hne
 have h49 := (b49r n ok hne).upAll [cellsN n, [.sl 7 (l.map encH) .sh], zN] (by simp [eHh.rowNoid, -List.all_eq_true]) rfl rfl
 have h50 := (dh_delN n.Una _ rfl h0 (by omega) (goneH l) 51 [] [.iptr [.sl 7 (l.map encH) .sh] 0] rfl rfl (fun x => a51 l hl x)).at (H := [cellsNu n (.osl 5 0 n.Una.length none 7), [], zN, [], [], rowC ceH n.Una]) (id := 5) rfl (eHh.rowNoid n.Una) (eHh.roomNoid _ _) (by simp [low, low0]) rfl
 have hfl := List.length_filter_le (fun x => !goneH l x) n.Una
 have hdl : (delRow ceH 7 (goneH l) n.Una).length = n.Una.length * 7 := by
   simp only [delRow, List.length_append, eHh.rowLen, List.length_replicate]
   omega
 have hdt : (delRow ceH 7 (goneH l) n.Una).take ((n.Una.filter fun x => !goneH l x).length * 7) = rowC ceH (n.Una.filter fun x => !goneH l x) := by
   rw [delRow, List.take_append_of_le_length (by rw [eHh.rowLen]; omega), List.take_of_length_le (by rw [eHh.rowLen]; omega)]
 unfold ackN
 generalize (n.Una.filter fun x => !goneH l x) = W at *
 generalize delRow ceH 7 (goneH l) n.Una = D at *
 have h56 := fun (x : Nbr) H => (a56 x).up' H rfl rfl
 have hnil : W = [] ↔ W.length = 0 := List.length_eq_zero_iff.symm
 have hch := eHh.chunk W _ rfl
 have htr := eHh.rowTree W
 have hL2 := eHh.rowLen W
 obtain ⟨len, hlen⟩ : ∃ len, n.Una.length = len := ⟨_, rfl⟩
 rw [hlen] at h0 hdl hfl h49 h50
 have hpos : 0 < len * 7 := by omega
 simp
 refine ⟨_, _, .inl (by simpa [ren, ren0, ren00, grow, zN, cellsNu] using h49), by simp, ?_⟩
 simp
 refine ⟨_, _, .inl (by simpa [ren, ren0, zN, cellsNu] using h50), by simp, ?_⟩
 have k56 := h56 { n with Una := W }
 have hw : waitsN { n with Una := W } = waitsN n := rfl
 rw [hw] at k56
 by_cases c1 : W.length = 0
 case neg =>
   have c1' : ¬ W = [] := fun e => c1 (hnil.1 e)
   simp [c1, c1', hdl, hdt, hL2, hch, htr, hpos, -List.all_eq_true]
   exact fun _ _ => rfl
 · have c1' : W = [] := hnil.2 c1
   subst c1'
   generalize waitsN n = b at *
   have hc0 : chunk true ([] : List AVal) 0 7 0 = [] := rfl
   simp [hc0, hdl, hdt, hL2, hch, htr, hpos, -List.all_eq_true]
   refine ⟨_, _, .inl (by simpa using k56 _), by simp, ?_⟩
   cases b <;> simp
set_option maxHeartbeats 2000000 in
set_option maxRecDepth 10000 in
theorem b49z (n : Nbr) (ok : okM n) (hz : n.Una = []) : CFun Try.prog 49 [encN n] [] (.agg (cellsNu n (.sl 7 [] .full))) [] := by
 refine CFun.intro (tr := []) (fz := []) (n := 20) (rs := [.cell 2 38]) Try.func49 rfl (by kernel_rfl) rfl rfl mixed (by kernel_rfl) (by simp) (by simp) ?_
 have hl1 := ok.lst
 have hl2 := ok.sent
 have hl3 := ok.req
 have k1 := fun H => (ch_row n.Lst (by omega)).up' H rfl rfl
 have k2 := fun H => (ch_row n.Sent (by omega)).up' H rfl rfl
 have k3 := fun H => (ch_row n.Req (by omega)).up' H rfl rfl
 have k4 := fun H => ch_cl0.up' H rfl rfl
 unfold cellsNu
 simp [hz]
 refine ⟨_, _, .inl (k1 _), by simp, ?_⟩
 simp
 refine ⟨_, _, .inl (k2 _), by simp, ?_⟩
 simp
 refine ⟨_, _, .inl (k3 _), by simp, ?_⟩
 simp
 refine ⟨_, _, .inl (k4 _), by simp, ?_⟩
 simp
set_option maxHeartbeats 8000000 in
set_option maxRecDepth 10000 in
theorem b16z (n : Nbr) (ok : okM n) (hz : n.Una = []) (l : List Hdr) (hl : l.length < 8796093022208) : CFun Try.prog 16 [encN n, .sl 7 (l.map encH) .sh] [] (encN (ackN n l)) [] := by
 refine CFun.intro (tr := [3000003000002]) (fz := []) (n := 23) (rs := [.cell 4 38]) Try.func16 rfl (by kernel_rfl) rfl rfl mixed (by kernel_rfl) (by simp) (by simp) ?_
 have h49 := (b49z n ok hz).up' [cellsN n, [.sl 7 (l.map encH) .sh], zN] rfl rfl
 have h50 := (dh_del0 51 [] [.iptr [.sl 7 (l.map encH) .sh] 0] rfl rfl (goneH l) (fun x => a51 l hl x)).up' [cellsNu n (.sl 7 [] .full), [], zN] rfl rfl
 have k56 := fun H => (a56 n).up' H rfl rfl
 have hW : (n.Una.filter fun u => !goneH l u) = [] := by rw [hz]; rfl
 unfold ackN
 rw [hW]
 generalize waitsN n = b at *
 simp
 refine ⟨_, _, .inl (by simpa [zN] using h49), by simp, ?_⟩
 simp [cellsNu]
 refine ⟨_, _, .inl (by simpa [zN, cellsNu] using h50), by simp, ?_⟩
 simp
 refine ⟨_, _, .inl ((k56 _).wk _ (by simp [noid, noid0]) (by simp [hz])), by simp, ?_⟩
 cases b <;> simp [hz]
theorem b16 (n : Nbr) (ok : okM n) (l : List Hdr) (hl : l.length < 8796093022208) : CFun Try.prog 16 [encN n, .sl 7 (l.map encH) .sh] [] (encN (ackN n l)) [] := by
 by_cases hz : n.Una = []
 · exact b16z n ok hz l hl
 · exact b16r n ok hz l hl
end Go.Proofs.Ythonenmafbpbkaa

/- Flooding: what is left of a key after Spread and after an acknowledgement. No program. -/
namespace Go.Proofs.Ythonenmafbpbkaa
open Go Go.Am
def loseF (k : LKey) (l : List Hdr) : List Hdr := l.filter fun u => !decide (keyH u = k)
theorem loseF_le (k : LKey) (l : List Hdr) : (loseF k l).length ≤ l.length := List.length_filter_le _ _
theorem loseF_none {k : LKey} {l : List Hdr} (h : ∀ u ∈ l, keyH u ≠ k) : loseF k l = l := by
 unfold loseF
 rw [List.filter_eq_self]
 intro u hu
 simpa using h u hu
theorem loseF_idem (k : LKey) (l : List Hdr) : loseF k (loseF k l) = loseF k l := by
 refine loseF_none fun u hu => ?_
 have := (List.mem_filter.1 hu).2
 simpa using this
theorem loseF_ins (h : Hdr) (p : Nat) (l : List Hdr) : loseF (keyH h) (insL l p h) = loseF (keyH h) l := by
 unfold loseF insL
 rw [List.filter_append, List.filter_cons]
 simp only [decide_true, Bool.not_true, Bool.false_eq_true, if_false]
 rw [← List.filter_append, List.take_append_drop]
theorem loseF_one {k : LKey} : ∀ {l : List Hdr}, ascH l → l.length ≤ (loseF k l).length + 1
 | [], _ => by simp
 | x :: l, h => by
   simp only [ascH, List.pairwise_cons] at h
   by_cases hk : keyH x = k
   · have e : loseF k (x :: l) = l := by
       unfold loseF
       rw [List.filter_cons]
       simp only [decide_eq_true hk, Bool.not_true, Bool.false_eq_true, if_false]
       refine loseF_none fun u hu => ?_
       rw [← hk]
       exact fun e => ltY_ne (h.1 u hu) e.symm
     rw [e]
     simp
   · have e : loseF k (x :: l) = x :: loseF k l := by
       unfold loseF
       rw [List.filter_cons]
       simp only [decide_eq_false hk, Bool.not_false, if_true]
     have ih := loseF_one (k := k) (l := l) h.2
     rw [e]
     simp only [List.length_cons]
     omega
theorem cmpH_self (h : Hdr) (hA : inI h.Age) : cmpH h h = 0 := by
 have := cmpH_neg h h hA hA
 omega
structure OnceN (h : Hdr) (n m : Nbr) : Prop where
  same : loseF (keyH h) n.Una = loseF (keyH h) m.Una
  one : n.Una.length ≤ (loseF (keyH h) n.Una).length + 1
  ok : okM n
theorem okM_of {n : Nbr} (h : okN n) : okM n := ⟨h.lst, h.sent, h.req, by have := h.una; omega⟩
theorem onceN_same (h : Hdr) {n : Nbr} (hn : okN n) (asc : ascH n.Una) : OnceN h n n := ⟨rfl, loseF_one asc, okM_of hn⟩
theorem onceN_rem (h : Hdr) {n : Nbr} (hn : okN n) : OnceN h (remN n h) n := by
 have e : (remN n h).Una = loseF (keyH h) n.Una := rfl
 have h4 := hn.una
 have h5 := loseF_le (keyH h) n.Una
 refine ⟨by rw [e, loseF_idem], by rw [e, loseF_idem]; omega, ⟨hn.lst, hn.sent, hn.req, by rw [e]; omega⟩⟩
theorem onceN_giv (fr : Bool) (snd now : Int) (h : Hdr) {n : Nbr} (hn : okN n) : OnceN h (givP fr snd h now (remN n h)).1 n := by
 have e : (remN n h).Una = loseF (keyH h) n.Una := rfl
 have h4 := hn.una
 have h5 := loseF_le (keyH h) n.Una
 obtain ⟨r1, r2, r3, r4⟩ := reqN_len (remN n h) h
 have h3 : (remN n h).Req = n.Req := rfl
 have hq : OnceN h (reqN (remN n h) h).1 n := by
   refine ⟨by rw [r3, e, loseF_idem], by rw [r3, e, loseF_idem]; omega, ⟨by rw [r1]; exact hn.lst, by rw [r2]; exact hn.sent, ?_, by rw [r3, e]; omega⟩⟩
   have := hn.req
   rw [h3] at r4
   omega
 unfold givP
 split
 · exact onceN_rem h hn
 · split
   · exact hq
   · split
     · exact hq
     · have e2 : (insN (reqN (remN n h) h).1 h now).Una = insL (reqN (remN n h) h).1.Una (posH (reqN (remN n h) h).1.Una (keyH h)) h := rfl
       have e3 : (insN (reqN (remN n h) h).1 h now).Una.length = (reqN (remN n h) h).1.Una.length + 1 := by rw [e2]; exact insL_len (posH_le _ _)
       refine ⟨?_, ?_, ⟨hq.ok.lst, hq.ok.sent, hq.ok.req, ?_⟩⟩
       · show loseF (keyH h) (insL _ _ h) = _
         rw [loseF_ins]
         exact hq.same
       · show (insN (reqN (remN n h) h).1 h now).Una.length ≤ (loseF (keyH h) (insL _ _ h)).length + 1
         rw [e3, loseF_ins, r3, e, loseF_idem]
         omega
       · rw [e3, r3, e]
         omega
theorem ack_none {h : Hdr} {n : Nbr} (hU : ∀ u ∈ n.Una, keyH u = keyH h → u = h) (hA : inI h.Age) : waitB (keyH h) (ackN n [h]) = false := by
 unfold waitB
 rw [List.any_eq_false]
 intro u hu
 have hu' : u ∈ n.Una.filter fun u => !goneH [h] u := hu
 obtain ⟨h1, h2⟩ := List.mem_filter.1 hu'
 intro hk
 have hk' : keyH u = keyH h := by simpa [hasKH] using hk
 have e := hU u h1 hk'
 subst e
 simp [goneH, cmpH_self u hA] at h2
theorem lone_rem (h : Hdr) (n : Nbr) : ∀ u ∈ (remN n h).Una, keyH u = keyH h → u = h := by
 intro u hu hk
 have hu' : u ∈ loseF (keyH h) n.Una := hu
 have := (List.mem_filter.1 hu').2
 simp [hk] at this
theorem lone_giv (fr : Bool) (snd now : Int) (h : Hdr) (n : Nbr) : ∀ u ∈ (givP fr snd h now (remN n h)).1.Una, keyH u = keyH h → u = h := by
 obtain ⟨r1, r2, r3, r4⟩ := reqN_len (remN n h) h
 have hr := lone_rem h n
 unfold givP
 split
 · exact hr
 · split
   · show ∀ u ∈ (reqN (remN n h) h).1.Una, _
     rw [r3]; exact hr
   · split
     · show ∀ u ∈ (reqN (remN n h) h).1.Una, _
       rw [r3]; exact hr
     · intro u hu hk
       have hu' : u ∈ insL (reqN (remN n h) h).1.Una (posH (reqN (remN n h) h).1.Una (keyH h)) h := hu
       unfold insL at hu'
       rcases List.mem_append.1 hu' with h1 | h1
       · exact hr u (by rw [← r3]; exact List.mem_of_mem_take h1) hk
       · rcases List.mem_cons.1 h1 with h1 | h1
         · exact h1
         · exact hr u (by rw [← r3]; exact List.mem_of_mem_drop h1) hk
structure OnceI (areas : List Int) (h : Hdr) (a s : Ifs) : Prop where
  len : a.Nb.length = s.Nb.length
  nb : ∀ (j : Nat) (n m : Nbr), a.Nb[j]? = some n → s.Nb[j]? = some m → OnceN h n m
  none : outB areas a = false → ∀ n ∈ a.Nb, waitB (keyH h) (ackN n [h]) = false
theorem onceI (areas : List Int) (fr : Bool) (snd now : Int) (h : Hdr) (hA : inI h.Age) {s : Ifs} (oks : okIf s) (asc : ∀ n ∈ s.Nb, ascH n.Una) : OnceI areas h (sprI areas fr snd h now s).1 s := by
 unfold sprI
 split
 · rename_i ho
   refine ⟨rfl, fun j n m hn hm => ?_, fun h0 => ?_⟩
   · rw [hn] at hm
     obtain rfl := Option.some.inj hm
     have hmem := List.mem_of_getElem? hn
     exact onceN_same h (oks.nbs n hmem) (asc n hmem)
   · simp only at h0
     rw [ho] at h0; cases h0
 · split
   · refine ⟨by simp, fun j n m hn hm => ?_, fun _ n hn => ?_⟩
     · simp only [List.getElem?_map, hm, Option.map_some, Option.some.injEq] at hn
       subst hn
       exact onceN_rem h (oks.nbs m (List.mem_of_getElem? hm))
     · obtain ⟨m, _, rfl⟩ := List.mem_map.1 hn
       exact ack_none (lone_rem h m) hA
   · refine ⟨by simp, fun j n m hn hm => ?_, fun _ n hn => ?_⟩
     · simp only [List.getElem?_map, hm, Option.map_some, Option.some.injEq] at hn
       subst hn
       exact onceN_giv fr snd now h (oks.nbs m (List.mem_of_getElem? hm))
     · obtain ⟨m, _, rfl⟩ := List.mem_map.1 hn
       exact ack_none (lone_giv fr snd now h m) hA
theorem sprL_get {areas : List Int} {fr snd : Int} {h : Hdr} {now : Int} : ∀ {l : List Ifs} {i j : Nat} {s a : Ifs}, l[j]? = some s → (sprL areas fr snd h now i l).1[j]? = some a → a = (sprI areas (decide (((i + j : Nat) : Int) = fr)) snd h now s).1
 | [], i, j, s, a, h1, _ => by simp at h1
 | x :: l, i, 0, s, a, h1, h2 => by
   simp [sprL] at h1 h2
   subst h1 h2
   rfl
 | x :: l, i, j + 1, s, a, h1, h2 => by
   simp only [List.getElem?_cons_succ] at h1
   simp only [sprL, List.getElem?_cons_succ] at h2
   have := sprL_get (i := i + 1) h1 h2
   rw [this]
   have e : i + 1 + j = i + (j + 1) := by omega
   rw [e]
end Go.Proofs.Ythonenmafbpbkaa

/- The law FloodOnce. -/
namespace Go.Proofs.Ythonenmafbpbkaa
open Go Go.Am
set_option maxHeartbeats 16000000 in
set_option maxRecDepth 10000 in
theorem o6 (l : List Ifs) (hl : l.length * 120 ≤ 140737488351232) (ok : ∀ s ∈ l, okIf s) (areas : List Int) (har : areas.length < 140737488355328) (fr snd : Int) (h : Hdr) (hA : inI h.Age) (now : Int) :
   CFun Try.prog 6 [.sl 15 (l.map encIf) .sh, .sl 1 (areas.map encW) .sh, .int .i64 fr, .int .u32 snd, encH h, .int .i64 now] [] (.bool true) [] := by
 refine CFun.intro (tr := [124, 3000124, 156]) (fz := []) (n := 169) (rs := [.tmp 12]) Try.func6 rfl (by kernel_rfl) rfl rfl mixed (by kernel_rfl) (by simp) (by simp) ?_
 have k10 := fun H => f10.up' H rfl rfl
 have k9 := fun H => (g9 l _ rfl (by omega) ok).up' H rfl rfl
 by_cases c1 : now < 0
 · simp [c1]
   refine ⟨_, _, .inl (by simpa using k10 _), by simp, ?_⟩
   simp
 by_cases c2 : 1099511627776 < now
 · simp [c1, c2]
   refine ⟨_, _, .inl (by simpa using k10 _), by simp, ?_⟩
   simp
 cases ho : okOrd l with
 | false =>
   rw [ho] at k9
   simp [c1, c2]
   refine ⟨_, _, .inl (by simpa using k9 _), by simp, ?_⟩
   simp
   refine ⟨_, _, .inl (by simpa using k10 _), by simp, ?_⟩
   simp
 | true =>
   rw [ho] at k9
   have asc := fun s hs n hn => (okOrd_asc ho s hs n hn).1
   have k23 := fun H => (c26 h).up' H rfl rfl
   have k11 := fun H => (r11a l hl ok asc areas har fr snd h now ⟨by omega, by omega⟩).up' H rfl rfl
   obtain ⟨s1, s2, s3⟩ := sprL_ok (areas := areas) (fr := fr) (snd := snd) (h := h) (now := now) (l := l) (i := 0) ok
   have hOn : ∀ (i : Nat) (a s : Ifs), (sprL areas fr snd h now 0 l).1[i]? = some a → l[i]? = some s → OnceI areas h a s := by
     intro i a s ha hs
     have hm := List.mem_of_getElem? hs
     rw [sprL_get hs ha]
     exact onceI areas _ snd now h hA (ok s hm) (asc s hm)
   generalize sprL areas fr snd h now 0 l = R at *
   obtain ⟨A, U⟩ := R
   simp only at s1 s2 s3 hOn k11
   obtain ⟨n, hn⟩ : ∃ n, n = l.length := ⟨_, rfl⟩
   rw [← hn] at s1
   have hn' := hn.symm
   obtain ⟨kk, hkk⟩ : ∃ kk, kk = keyH h := ⟨_, rfl⟩
   rw [← hkk] at k23
   simp [c1, c2]
   refine ⟨_, _, .inl (by simpa using k9 _), by simp, ?_⟩
   simp
   refine ⟨_, _, .inl (by simpa using k23 _), by simp, ?_⟩
   simp
   refine ⟨_, _, .inl (by simpa using k11 _), by simp, ?_⟩
   simp [s1, hn']
   refine LoopK.intro (tr := [124, 3000124, 156]) mixed (by kernel_rfl) (fun q : Nat × List Ifs => [(0, .sl 15 (l.map encIf) .sh), (1, .sl 1 (areas.map encW) .sh), (10, .ptr 0 0), (13, .ptr 1 0), (14, .sl 15 (A.map encIf) .sh), (16, .sl 15 (q.2.map encIf) .own), (54, .int .i64 n), (55, .int .i64 q.1)]) (fun _ => [cellsH h, cellsY kk])
     (fun q => q.1 ≤ n ∧ q.2.length ≤ q.1 ∧ ∀ s ∈ q.2, s.Nb.length < 8796093022208 ∧ ∀ x ∈ s.Nb, x.Una.length < 8796093022208 ∧ waitB kk x = false) (fun q => n - q.1) (0, []) ?_ ?_ ?_
   · exact ⟨Nat.zero_le _, Nat.le_refl _, fun s hs => by cases hs⟩
   · simp [LeV, LeS]
   rintro ⟨i, ins⟩ ⟨i1, i2, i3⟩
   simp only at i1 i2 i3 ⊢
   by_cases hi : i < n
   case neg =>
     have hin : i = n := by omega
     have k21 := fun H => (e21 ins _ rfl (by omega) (fun s hs => ⟨(i3 s hs).1, fun x hx => ((i3 s hs).2 x hx).1⟩) kk).up' H rfl rfl
     have hw : waitL ins kk = false := by
       unfold waitL
       rw [List.any_eq_false]
       intro s hs
       rw [Bool.not_eq_true, List.any_eq_false]
       intro x hx
       rw [((i3 s hs).2 x hx).2]
       simp
     rw [hw] at k21
     simp [hin]
     refine ⟨_, _, .inl (by simpa using k21 _), by simp, ?_⟩
     simp
     refine ⟨_, _, .inl (by simpa using k10 _), by simp, ?_⟩
     simp
   have hiI : (i : Int) < n := by omega
   have hil : i < l.length := by omega
   have hiA : i < A.length := by omega
   obtain ⟨s, hs⟩ : ∃ s, l[i]? = some s := ⟨_, List.getElem?_eq_getElem hil⟩
   obtain ⟨a, ha⟩ : ∃ a, A[i]? = some a := ⟨_, List.getElem?_eq_getElem hiA⟩
   obtain ⟨oL, oN, oW⟩ := hOn i a s ha hs
   have w1 : IntKind.i64.wrap ((i : Int) + 1) = i + 1 := wrap_in (by omega)
   have oks := ok s (List.mem_of_getElem? hs)
   have onb := oks.nb
   obtain ⟨m, hm⟩ : ∃ m, m = s.Nb.length := ⟨_, rfl⟩
   rw [← hm] at oL
   have hm' := hm.symm
   generalize hQ : LoopPost _ _ _ _ _ _ _ = Q
   simp [hi, hiI, s1, hn', hs, ha, gE hs, gE ha, oL, hm']
   refine LoopK.intro (tr := [124, 3000124, 156]) mixed (by kernel_rfl) (fun q : Nat × List Nbr => [(0, .sl 15 (l.map encIf) .sh), (1, .sl 1 (areas.map encW) .sh), (10, .ptr 0 0), (13, .ptr 1 0), (14, .sl 15 (A.map encIf) .sh), (16, .sl 15 (ins.map encIf) .own), (54, .int .i64 n), (55, .int .i64 i), (17, .int .i64 i), (18, .ptr 2 0), (81, .int .i64 m), (82, .int .i64 q.1)]) (fun q => [cellsH h, cellsY kk, cellsIx a (.sl 15 (q.2.map encN) .own)])
     (fun q => q.1 ≤ m ∧ q.2 = (a.Nb.take q.1).map (ackN · [h])) (fun q => m - q.1) (0, []) ?_ ?_ ?_
   · exact ⟨Nat.zero_le _, by simp⟩
   · simp [LeV, LeS]
   rintro ⟨j, na⟩ ⟨j1, j2⟩
   simp only at j1 j2 ⊢
   by_cases hj : j < m
   · have hjI : (j : Int) < m := by omega
     obtain ⟨x, hx, hdx⟩ := get_drop (l := a.Nb) (i := j) (by omega)
     obtain ⟨y, hy⟩ : ∃ y, s.Nb[j]? = some y := ⟨_, List.getElem?_eq_getElem (by omega)⟩
     obtain ⟨p1, p2, p3⟩ := oN j x y hx hy
     rw [← hkk] at p1 p2
     have oky := oks.nbs y (List.mem_of_getElem? hy)
     have u1 := oky.una
     have u2 := p3.una
     have nal : na.length = j := by rw [j2]; simp; omega
     have b1 : (na.length + 1) * 168 ≤ 140737488355328 := by omega
     have b2 : na.length ≤ 140737488355327 := by omega
     have w2 : IntKind.i64.wrap ((j : Int) + 1) = j + 1 := wrap_in (by omega)
     obtain ⟨L, hL⟩ : ∃ L, L = loseF kk x.Una := ⟨_, rfl⟩
     have hLl : L.length ≤ x.Una.length := by rw [hL]; exact loseF_le _ _
     rw [← hL] at p1 p2
     have kx := fun H => (g24 x.Una _ rfl (by omega) kk).up' H rfl rfl
     have ky := fun H => (g24 y.Una _ rfl (by omega) kk).up' H rfl rfl
     have ex : (x.Una.filter fun u => !decide (keyH u = kk)) = L := by rw [hL]; rfl
     have ey : (y.Una.filter fun u => !decide (keyH u = kk)) = L := by rw [p1]; rfl
     rw [ex] at kx
     rw [ey] at ky
     have kf := fun H => (f42 L L _ _ rfl rfl (by omega)).up' H rfl rfl
     rw [decide_eq_true rfl] at kf
     have k16 := fun H => ((b16 x p3 [h] (by simp)).wk [encN x, .sl 7 [encH h] .full] rfl (by simp [All2, LeS])).up' H rfl rfl
     have ws : IntKind.i64.wrap ((x.Una.length : Int) - L.length) = x.Una.length - L.length := wrap_in (by omega)
     have wl : ¬ (1 : Int) < (x.Una.length : Int) - L.length := by omega
     have jn : na ++ [ackN x [h]] = (a.Nb.take (j + 1)).map (ackN · [h]) := by rw [List.take_add_one, hx, j2]; simp
     generalize ackN x [h] = z at *
     have hjs : j < s.Nb.length := by omega
     have hja : j < a.Nb.length := by omega
     simp [hi, hiI, s1, hn', hs, ha, gE hs, gE ha, oL, hm', hj, hjI, hx, hy, gE hx, gE hy]
     refine ⟨_, _, .inl (by simpa using kx _), by simp, ?_⟩
     simp
     refine ⟨_, _, .inl (by simpa using ky _), by simp, ?_⟩
     simp
     refine ⟨_, _, .inl (by simpa using kf _), by simp, ?_⟩
     simp
     refine ⟨_, _, .inl (by simpa using kx _), by simp, ?_⟩
     simp [ws, wl]
     refine ⟨_, _, .inl (by simpa using k16 _), by simp, ?_⟩
     simp [b1, b2, w2]
     refine ⟨j + 1, na ++ [z], ⟨hj, ?_⟩, by omega, by simp, by simp⟩
     rw [jn, List.map_take]
   · have hjm : j = m := by omega
     have na2 : na = a.Nb.map (ackN · [h]) := by
       rw [j2, hjm, ← oL, List.take_length]
     have b1 : (ins.length + 1) * 120 ≤ 140737488355328 := by omega
     have b2 : ins.length ≤ 140737488355327 := by omega
     obtain ⟨nA, hnA⟩ : ∃ nA, nA = areas.length := ⟨_, rfl⟩
     have hnA' := hnA.symm
     simp [hjm, hnA']
     refine LoopK.intro (tr := [124, 3000124, 156]) mixed (by kernel_rfl) (fun q : Nat => [(0, .sl 15 (l.map encIf) .sh), (1, .sl 1 (areas.map encW) .sh), (10, .ptr 0 0), (13, .ptr 1 0), (14, .sl 15 (A.map encIf) .sh), (16, .sl 15 (ins.map encIf) .own), (54, .int .i64 n), (55, .int .i64 i), (18, .ptr 2 0), (134, .int .i64 nA), (135, .int .i64 q)]) (fun _ => [cellsH h, cellsY kk, cellsIx a (.sl 15 (na.map encN) .own)])
       (fun q => q ≤ nA) (fun q => nA - q) 0 (Nat.zero_le _) ?_ ?_
     · simp
     intro q hq
     have hnext : ∀ (t' : Nat → AVal) (H' : List (List AVal)) (ins' : List Ifs), (ins' = ins ∨ (outB areas a = false ∧ ins' = ins ++ [{ a with Nb := na }])) → Le 0 ⟨t', H'⟩ [(0, .sl 15 (l.map encIf) .sh), (1, .sl 1 (areas.map encW) .sh), (10, .ptr 0 0), (13, .ptr 1 0), (14, .sl 15 (A.map encIf) .sh), (16, .sl 15 (ins'.map encIf) .own), (54, .int .i64 n), (55, .int .i64 (i + 1 : Nat))] [cellsH h, cellsY kk] → Q .normal ⟨t', H'⟩ := by
       intro t' H' ins' hin hle
       rw [← hQ]
       simp only [LoopPost]
       refine ⟨(i + 1, ins'), ⟨hi, ?_, ?_⟩, by simp only; omega, hle⟩
       · rcases hin with rfl | ⟨_, rfl⟩
         · simp only; omega
         · simp; omega
       · rcases hin with rfl | ⟨hob, rfl⟩
         · exact i3
         · intro s' hs'
           rcases List.mem_append.1 hs' with h1 | h1
           · exact i3 s' h1
           · obtain rfl := List.mem_singleton.1 h1
             refine ⟨?_, fun x hx => ?_⟩
             · show na.length < _
               rw [na2, List.length_map, oL]
               omega
             · have hx' : x ∈ na := hx
               rw [na2] at hx'
               obtain ⟨z, hz, rfl⟩ := List.mem_map.1 hx'
               refine ⟨?_, by rw [hkk]; exact oW hob z hz⟩
               obtain ⟨q2, hq2⟩ := List.getElem?_of_mem hz
               obtain ⟨y, hy⟩ : ∃ y, s.Nb[q2]? = some y := ⟨_, List.getElem?_eq_getElem (by have := (List.getElem?_eq_some_iff.1 hq2).1; omega)⟩
               have u := (oN q2 z y hq2 hy).ok.una
               have u2 : (ackN z [h]).Una.length ≤ z.Una.length := List.length_filter_le _ _
               omega
     generalize hQ4 : LoopPost _ _ _ _ _ _ _ = Q4
     by_cases hqn : q < nA
     · have hqI : (q : Int) < nA := by omega
       have hql : q < areas.length := by omega
       obtain ⟨v, hv⟩ : ∃ v, areas[q]? = some v := ⟨_, List.getElem?_eq_getElem hql⟩
       have w3 : IntKind.i64.wrap ((q : Int) + 1) = q + 1 := wrap_in (by omega)
       by_cases d1 : v = a.C4
       · cases d2 : a.Up with
         | true =>
           by_cases d3 : a.Kind = 3
           · simp [hqn, hqI, hnA', hql, hv, gE hv, d1, d2, d3, w3]
             rw [← hQ4]
             simp only [LoopPost]
             exact ⟨q + 1, hqn, by omega, by simp [d2, d3]⟩
           · simp [hqn, hqI, hnA', hql, hv, gE hv, d1, d2, d3, w3, b1, b2, w1]
             have hob : outB areas a = false := by
               unfold outB
               have e : (areas.any fun y => decide (a.C4 = y)) = true := List.any_eq_true.2 ⟨v, List.mem_of_getElem? hv, by simp [d1]⟩
               rw [e, d2, decide_eq_false d3]
               rfl
             rw [← hQ4]
             simp only [LoopPost]
             simp [w1]
             refine hnext _ _ (ins ++ [{ a with Nb := na }]) (.inr ⟨hob, rfl⟩) ?_
             simp [d2]
         | false =>
           simp [hqn, hqI, hnA', hql, hv, gE hv, d1, d2, w3]
           rw [← hQ4]
           simp only [LoopPost]
           exact ⟨q + 1, hqn, by omega, by simp [d2]⟩
       · simp [hqn, hqI, hnA', hql, hv, gE hv, d1, w3]
         rw [← hQ4]
         simp only [LoopPost]
         exact ⟨q + 1, hqn, by omega, by simp [hqn]⟩
     · have : q = nA := by omega
       simp [this, w1]
       rw [← hQ4]
       simp only [LoopPost]
       simp [w1]
       refine hnext _ _ ins (.inl rfl) ?_
       simp
end Go.Proofs.Ythonenmafbpbkaa
