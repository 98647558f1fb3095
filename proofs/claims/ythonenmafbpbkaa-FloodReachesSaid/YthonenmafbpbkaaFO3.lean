/- Flooding, by the reference: Spread. -/
import Derived.Test.YthonenmafbpbkaaFT2
import Derived.Test.YthonenmafbpbkaaFS11
import Derived.Test.YthonenmafbpbkaaFS3
import Derived.Test.YthonenmafbpbkaaFXS3
set_option linter.unusedSimpArgs false
set_option linter.unusedVariables false
namespace Go.Proofs.Ythonenmafbpbkaa
open Go Go.Am
theorem givP_R (fr : Bool) (snd : Int) (h : Hdr) (now : Int) (n : Nbr) : givP fr snd h now n = if n.State < 4 then (n, false) else givR n (fr && decide (n.Router = snd)) h now := by
 unfold givP givR
 cases fr <;> simp
def stpR (sk fr : Bool) (snd : Int) (h : Hdr) (now : Int) (n : Nbr) : Nbr × Bool :=
 if sk = true then (remN n h, false) else if (remN n h).State < 4 then (remN n h, false) else givR (remN n h) (fr && decide ((remN n h).Router = snd)) h now
theorem sprI_R {areas : List Int} {fr : Bool} {snd : Int} {h : Hdr} {now : Int} {s : Ifs} (ho : outB areas s = false) :
   sprI areas fr snd h now s = ({ s with Nb := s.Nb.map fun n => (stpR (skipB fr snd s) fr snd h now n).1 }, s.Nb.any fun n => (stpR (skipB fr snd s) fr snd h now n).2) := by
 unfold sprI
 rw [if_neg (by rw [ho]; simp)]
 cases hs : skipB fr snd s with
 | true => simp [stpR]
 | false =>
   simp only [Bool.false_eq_true, if_false, stpR]
   congr 1
   · congr 1
     refine List.map_congr_left fun n _ => ?_
     rw [givP_R]
   · refine congrArg (fun f => s.Nb.any f) (funext fun n => ?_)
     rw [givP_R]
set_option maxHeartbeats 16000000 in
set_option maxRecDepth 10000 in
theorem g12 (l : List Ifs) (hl : l.length * 120 ≤ 140737488351232) (ok : ∀ s ∈ l, okIf s) (asc : ∀ s ∈ l, ∀ n ∈ s.Nb, ascH n.Una) (areas : List Int) (har : areas.length < 140737488355328) (fr snd : Int) (h : Hdr) (hA : inI h.Age) (now : Int) (hnow : 0 ≤ now ∧ now ≤ 1099511627776) :
   CFun Try.prog 12 [.sl 15 (l.map encIf) .sh, .sl 1 (areas.map encW) .sh, .int .i64 fr, .int .u32 snd, encH h, .int .i64 now] [] (.tup [.sl 15 ((sprL areas fr snd h now 0 l).1.map encIf) .sh, .sl 1 ((sprL areas fr snd h now 0 l).2.map fun i => .int .i64 (i : Nat)) .sh]) [] := by
 refine CFun.intro (tr := [54, 128, 134, 139]) (fz := []) (n := 145) (rs := [.tmp 12, .tmp 13]) Try.func12 rfl (by kernel_rfl) rfl rfl mixed (by kernel_rfl) (by simp) (by simp) ?_
 obtain ⟨n, hn⟩ : ∃ n, n = l.length := ⟨_, rfl⟩
 obtain ⟨ans, hans⟩ : ∃ ans, ans = sprL areas fr snd h now := ⟨_, rfl⟩
 rw [← hans]
 simp
 refine LoopK.intro (tr := [54, 128, 134, 139]) mixed (by kernel_rfl) (fun q : Nat × List Ifs × List Nat => [(0, .sl 15 (l.map encIf) .sh), (1, .sl 1 (areas.map encW) .sh), (2, .int .i64 fr), (3, .int .u32 snd), (5, .int .i64 now), (10, .ptr 0 0), (14, .sl 15 (q.2.1.map encIf) .own), (15, .sl 1 (q.2.2.map fun i => .int .i64 (i : Nat)) .own), (16, .int .i64 q.1)]) (fun _ => [cellsH h])
   (fun q => q.1 ≤ n ∧ q.2.1.length = q.1 ∧ q.2.2.length ≤ q.1 ∧ (ans 0 l).1 = q.2.1 ++ (ans q.1 (l.drop q.1)).1 ∧ (ans 0 l).2 = q.2.2 ++ (ans q.1 (l.drop q.1)).2) (fun q => n - q.1) (0, [], []) ?_ ?_ ?_
 · exact ⟨Nat.zero_le _, rfl, Nat.le_refl _, by simp, by simp⟩
 · simp
 rintro ⟨i, acc, sent⟩ ⟨i1, i2, i3, i4, i5⟩
 simp only at i1 i2 i3 i4 i5 ⊢
 by_cases hi : i < n
 case neg =>
   have hin : i = n := by omega
   subst hin
   have hz : ans i (l.drop i) = ([], []) := by rw [hn, List.drop_length, hans]; rfl
   rw [hz] at i4 i5
   simp only [List.append_nil] at i4 i5
   have hn' : l.length = i := hn.symm
   simp [hn', i4, i5]
 have hiI : (i : Int) < n := by omega
 obtain ⟨s, hs, hd⟩ := get_drop (l := l) (i := i) (by omega)
 rw [hd] at i4 i5
 have oks := ok s (List.mem_of_getElem? hs)
 have ascs := asc s (List.mem_of_getElem? hs)
 have w1 : IntKind.i64.wrap ((i : Int) + 1) = i + 1 := wrap_in (by omega)
 have hcons : ans i (s :: l.drop (i + 1)) = ((sprI areas (decide ((i : Int) = fr)) snd h now s).1 :: (ans (i + 1) (l.drop (i + 1))).1, if (sprI areas (decide ((i : Int) = fr)) snd h now s).2 = true then i :: (ans (i + 1) (l.drop (i + 1))).2 else (ans (i + 1) (l.drop (i + 1))).2) := by
   rw [hans]; rfl
 rw [hcons] at i4 i5
 simp only at i4 i5
 have hn' : l.length = n := hn.symm
 have hil : i < l.length := by omega
 have a1 : (acc.length + 1) * 120 ≤ 140737488355328 := by omega
 have a2 : acc.length ≤ 140737488355327 := by omega
 have a3 : (sent.length + 1) * 8 ≤ 140737488355328 := by omega
 have a4 : sent.length ≤ 140737488355327 := by omega
 have k45 := fun H => (r45 areas _ rfl har s.C4).up' H rfl rfl
 have hout : outB areas s = (!s.Up || (decide (s.Kind = 3) || !(areas.any fun y => decide (s.C4 = y)))) := rfl
 generalize hQ : LoopPost _ _ _ _ _ _ _ = Q
 have hskip : outB areas s = true → ∀ (t' : Nat → AVal) (Z : List (List AVal)), Le 0 ⟨t', cellsH h :: Z⟩ [(0, .sl 15 (l.map encIf) .sh), (1, .sl 1 (areas.map encW) .sh), (2, .int .i64 fr), (3, .int .u32 snd), (5, .int .i64 now), (10, .ptr 0 0), (14, .sl 15 ((acc ++ [s]).map encIf) .own), (15, .sl 1 (sent.map fun i => .int .i64 (i : Nat)) .own), (16, .int .i64 (i + 1 : Nat))] [cellsH h] → Q .normal ⟨t', cellsH h :: Z⟩ := by
   intro ho t' Z hle
   have e1 : sprI areas (decide ((i : Int) = fr)) snd h now s = (s, false) := by unfold sprI; rw [if_pos ho]
   rw [e1] at i4 i5
   rw [← hQ]
   simp only [LoopPost]
   exact ⟨(i + 1, acc ++ [s], sent), ⟨hi, by simp [i2], by simp only; omega, by simpa using i4, by simpa using i5⟩, by simp only; omega, hle⟩
 cases hUp : s.Up with
 | false =>
   simp [hi, hiI, hil, hn', hs, gE hs, hUp, a1, a2, w1]
   refine hskip (by rw [hout, hUp]; rfl) _ _ ?_
   simp [hUp, LeV, LeS]
 | true =>
   by_cases hK : s.Kind = 3
   · simp [hi, hiI, hil, hn', hs, gE hs, hUp, hK, a1, a2, w1]
     refine hskip (by rw [hout, hUp, hK]; rfl) _ _ ?_
     simp [hUp, hK]
   have hb3 : (s.Kind == 3) = false := by simpa using hK
   cases hin2 : (areas.any fun y => decide (s.C4 = y)) with
   | false =>
     rw [hin2] at k45
     simp [hi, hiI, hil, hn', hs, gE hs, hUp, hK, hb3, a1, a2, w1]
     refine ⟨_, _, .inl (by simpa using k45 _), by simp, ?_⟩
     simp [hUp, hK, hb3, a1, a2, w1]
     refine hskip (by rw [hout, hUp, hin2]; simp) _ _ ?_
     simp [hUp]
   | true =>
     rw [hin2] at k45
     have hob : outB areas s = false := by rw [hout, hUp, hin2, decide_eq_false hK]; rfl
     rw [sprI_R hob] at i4 i5
     obtain ⟨sk, hsk⟩ : ∃ sk, sk = skipB (decide ((i : Int) = fr)) snd s := ⟨_, rfl⟩
     rw [← hsk] at i4 i5
     have hsk2 : sk = (decide ((i : Int) = fr) && (decide (s.Kind = 2) && (decide (snd ≠ 0) && (decide (snd = s.DR) || decide (snd = s.BDR))))) := by rw [hsk]; rfl
     obtain ⟨f, hf⟩ : ∃ f, f = stpR sk (decide ((i : Int) = fr)) snd h now := ⟨_, rfl⟩
     rw [← hf] at i4 i5
     obtain ⟨m, hm⟩ : ∃ m, m = s.Nb.length := ⟨_, rfl⟩
     have hm' : s.Nb.length = m := hm.symm
     have hnb := oks.nb
     simp [hi, hiI, hil, hn', hs, gE hs, hUp, hK, hb3, w1]
     refine ⟨_, _, .inl (by simpa using k45 _), by simp, ?_⟩
     generalize hCs : (AVal.int IntKind.i64 s.Kind :: _) = Cs
     have q0 : Cs[0]? = some (.int .i64 s.Kind) := by rw [← hCs]; rfl
     have q10 : Cs[10]? = some (.int .u32 s.DR) := by rw [← hCs]; rfl
     have q11 : Cs[11]? = some (.int .u32 s.BDR) := by rw [← hCs]; rfl
     have q14 : Cs[14]? = some (.sl 15 (s.Nb.map encN) .sh) := by rw [← hCs]; rfl
     have hCs2 : Cs = cellsI s := by rw [← hCs]; simp [hUp]
     have hCle : ∀ n, LeCells n Cs Cs := fun n => treeCells_le n (by rw [hCs2]; rfl)
     clear hCs
     generalize hC : Code.seq (Code.region 10 _ _) _ = C10
     generalize hQ2 : blkK 1 _ = Q2
     have hgo : ∀ t : Nat → AVal, t 0 = .sl 15 (l.map encIf) .sh → t 1 = .sl 1 (areas.map encW) .sh → t 2 = .int .i64 fr → t 3 = .int .u32 snd → t 5 = .int .i64 now → t 10 = .ptr 0 0 → t 14 = .sl 15 (acc.map encIf) .own → t 15 = .sl 1 (sent.map fun i => .int .i64 (i : Nat)) .own → t 16 = .int .i64 i → t 17 = .ptr 1 0 → t 18 = .bool sk → awp Try.prog [54, 128, 134, 139] 145 0 C10 Q2 ⟨t, [cellsH h, Cs]⟩ := by
       intro t t0 t1 t2 t3 t5 t10 t14 t15 t16 t17 t18
       rw [← hC]
       simp
       refine LoopK.intro (tr := [54, 128, 134, 139]) mixed (by kernel_rfl) (fun q : Nat × List Nbr × Bool => [(0, .sl 15 (l.map encIf) .sh), (1, .sl 1 (areas.map encW) .sh), (2, .int .i64 fr), (3, .int .u32 snd), (5, .int .i64 now), (10, .ptr 0 0), (14, .sl 15 (acc.map encIf) .own), (15, .sl 1 (sent.map fun i => .int .i64 (i : Nat)) .own), (16, .int .i64 i), (17, .ptr 1 0), (18, .bool sk), (19, .bool q.2.2), (20, .sl 15 (q.2.1.map encN) .own), (21, .int .i64 q.1)]) (fun _ => [cellsH h, Cs])
         (fun q => q.1 ≤ m ∧ q.2.1 = (s.Nb.take q.1).map (fun n => (f n).1) ∧ q.2.2 = (s.Nb.take q.1).any fun n => (f n).2) (fun q => m - q.1) (0, [], false) ?_ ?_ ?_
       · exact ⟨Nat.zero_le _, by simp, by simp⟩
       · simp [t0, t1, t2, t3, t5, t10, t14, t15, t16, t17, t18, hCle]
       rintro ⟨j, na, an⟩ ⟨j1, j2, j3⟩
       simp only at j1 j2 j3 ⊢
       by_cases hj : j < m
       · obtain ⟨x, hx, hdx⟩ := get_drop (l := s.Nb) (i := j) (by omega)
         have hjI : (j : Int) < m := by omega
         have hjl : j < s.Nb.length := by omega
         have hxm := List.mem_of_getElem? hx
         have okx := oks.nbs x hxm
         have o1 := okx.req
         have o2 := okx.una
         have nal : na.length = j := by rw [j2]; simp; omega
         have b1 : (na.length + 1) * 168 ≤ 140737488355328 := by omega
         have b2 : na.length ≤ 140737488355327 := by omega
         have w2 : IntKind.i64.wrap ((j : Int) + 1) = j + 1 := wrap_in (by omega)
         have k23 := fun H => (c26 h).up' H rfl rfl
         have k46 := fun H => (g46 x h o2).up' H rfl rfl
         have hfx : f x = stpR sk (decide ((i : Int) = fr)) snd h now x := by rw [hf]
         unfold stpR at hfx
         have yU : (remN x h).Una = losN x h := rfl
         have k47 := fun own H => (g47 (remN x h) h now hnow (by show x.Req.length * 56 ≤ _; exact o1) (by rw [yU]; exact Nat.le_trans (Nat.mul_le_mul_right 56 (List.length_filter_le _ _)) o2) (fun z hz => (okx.hreq z hz).2.2.2.2.2.1) hA (by rw [yU]; exact (ascs x hxm).filter _) (by
           intro u hu
           rw [yU] at hu
           have := (List.mem_filter.1 hu).2
           simpa using this) own).up' H rfl rfl
         generalize remN x h = y at *
         have jn1 : na ++ [(f x).1] = (s.Nb.take (j + 1)).map (fun n => (f n).1) := by rw [List.take_add_one, hx, j2]; simp
         have jn2 : (an || (f x).2) = (s.Nb.take (j + 1)).any (fun n => (f n).2) := by rw [List.take_add_one, hx, j3]; simp
         generalize hQ3 : LoopPost _ _ _ _ _ _ _ = Q3
         cases hsk' : sk with
         | true =>
           simp [hj, hjI, hm', hjl, q14, hx, gE hx, b1, b2, w2]
           refine ⟨_, _, .inl (by simpa using k23 _), by simp, ?_⟩
           simp
           refine ⟨_, _, .inl (by simpa using k46 _), by simp, ?_⟩
           simp [b1, b2, w2]
           rw [if_pos hsk'] at hfx
           rw [← hQ3]
           simp only [LoopPost]
           refine ⟨(j + 1, na ++ [(f x).1], an || (f x).2), ⟨hj, jn1, jn2⟩, by simp only; omega, ?_⟩
           rw [hfx]
           simp [hsk', hCle]
         | false =>
           simp [hj, hjI, hm', hjl, q14, hx, gE hx, b1, b2, w2]
           refine ⟨_, _, .inl (by simpa using k23 _), by simp, ?_⟩
           simp
           refine ⟨_, _, .inl (by simpa using k46 _), by simp, ?_⟩
           rw [if_neg (by rw [hsk']; simp)] at hfx
           by_cases c4 : y.State < 4
           · rw [if_pos c4] at hfx
             have c4' : ¬ 4 ≤ y.State := by omega
             simp [c4, c4', b1, b2, w2]
             rw [← hQ3]
             simp only [LoopPost]
             refine ⟨(j + 1, na ++ [(f x).1], an || (f x).2), ⟨hj, jn1, jn2⟩, by simp only; omega, ?_⟩
             rw [hfx]
             simp [hsk', hCle]
           · rw [if_neg c4] at hfx
             have c4' : 4 ≤ y.State := by omega
             have hown : (decide ((i : Int) = fr) && decide (y.Router = snd)) = decide ((i : Int) = fr ∧ y.Router = snd) := by simp
             rw [hown] at hfx
             have k := k47 (decide ((i : Int) = fr ∧ y.Router = snd))
             generalize givR y (decide ((i : Int) = fr ∧ y.Router = snd)) h now = R at *
             have hEnd : ∀ (t' : Nat → AVal) (Z : List (List AVal)), Le 0 ⟨t', cellsH h :: Cs :: Z⟩ [(0, .sl 15 (l.map encIf) .sh), (1, .sl 1 (areas.map encW) .sh), (2, .int .i64 fr), (3, .int .u32 snd), (5, .int .i64 now), (10, .ptr 0 0), (14, .sl 15 (acc.map encIf) .own), (15, .sl 1 (sent.map fun i => .int .i64 (i : Nat)) .own), (16, .int .i64 i), (17, .ptr 1 0), (18, .bool sk), (19, .bool (an || R.2)), (20, .sl 15 ((na ++ [R.1]).map encN) .own), (21, .int .i64 (j + 1 : Nat))] [cellsH h, Cs] → Q3 .normal ⟨t', cellsH h :: Cs :: Z⟩ := by
               intro t' Z hle
               rw [← hQ3]
               simp only [LoopPost]
               exact ⟨(j + 1, na ++ [R.1], an || R.2), ⟨hj, by rw [← hfx]; exact jn1, by rw [← hfx]; exact jn2⟩, by simp only; omega, hle⟩
             by_cases c6 : (i : Int) = fr
             · by_cases c7 : y.Router = snd
               · rw [decide_eq_true ⟨c6, c7⟩] at k
                 simp [c4, c4', c6, c7]
                 refine ⟨_, _, .inl (by simpa [c7] using k _), by simp, ?_⟩
                 cases an <;> simp [b1, b2, w2]
                 all_goals
                   refine hEnd _ _ ?_
                   simp [hsk', hCle, c6]
               · rw [decide_eq_false (fun q => c7 q.2)] at k
                 have c7b : (y.Router == snd) = false := by simpa using c7
                 simp [c4, c4', c6, c7, c7b]
                 refine ⟨_, _, .inl (by simpa using k _), by simp, ?_⟩
                 cases an <;> simp [b1, b2, w2]
                 all_goals
                   refine hEnd _ _ ?_
                   simp [hsk', hCle, c6]
             · rw [decide_eq_false (fun q => c6 q.1)] at k
               simp [c4, c4', c6]
               refine ⟨_, _, .inl (by simpa using k _), by simp, ?_⟩
               cases an <;> simp [b1, b2, w2]
               all_goals
                 refine hEnd _ _ ?_
                 simp [hsk', hCle]
       · have hjm : j = m := by omega
         rw [hjm] at j2 j3
         rw [hm, List.take_length] at j2 j3
         have hjN : ¬ j < m := hj
         have e6 : (sprI areas (decide ((i : Int) = fr)) snd h now s) = ({ s with Nb := na }, an) := by
           rw [sprI_R hob, j2, j3, ← hsk, ← hf]
         rw [hCs2]
         cases an with
         | false =>
           simp [hjm, hm', a1, a2, w1]
           rw [← hQ2]
           simp [w1]
           rw [← hQ]
           simp only [LoopPost]
           refine ⟨(i + 1, acc ++ [{ s with Nb := na }], sent), ⟨hi, by simp [i2], by simp only; omega, by rw [i4]; simp [← j2], by rw [i5, ← j3]; simp⟩, by simp only; omega, ?_⟩
           simp [hUp]
         | true =>
           simp [hjm, hm', a1, a2, a3, a4, w1]
           rw [← hQ2]
           simp [w1]
           rw [← hQ]
           simp only [LoopPost]
           refine ⟨(i + 1, acc ++ [{ s with Nb := na }], sent ++ [i]), ⟨hi, by simp [i2], by simp; omega, by rw [i4]; simp [← j2], by rw [i5, ← j3]; simp⟩, by simp only; omega, ?_⟩
           simp [hUp]
     by_cases c1 : (i : Int) = fr
     · by_cases c2 : s.Kind = 2
       · by_cases c3 : snd = 0
         · have hb : sk = false := by rw [hsk2, decide_eq_true c1, c2, c3]; simp
           subst hb
           simp [q0, q10, q11, c1, c2, c3]
           refine hgo _ ?_ ?_ ?_ ?_ ?_ ?_ ?_ ?_ ?_ ?_ ?_
           all_goals simp [c1, c3]
         · have c3' : (snd == 0) = false := by simpa using c3
           by_cases c4 : snd = s.DR
           · have hb : sk = true := by rw [hsk2, decide_eq_true c1, c2, decide_eq_true c3, decide_eq_true c4]; simp
             subst hb
             simp [q0, q10, q11, c1, c2, c3, c3', ← c4]
             refine hgo _ ?_ ?_ ?_ ?_ ?_ ?_ ?_ ?_ ?_ ?_ ?_
             all_goals simp [c1, ← c4]
           · by_cases c5 : snd = s.BDR
             · have hb : sk = true := by rw [hsk2, decide_eq_true c1, c2, decide_eq_true c3, decide_eq_true c5]; simp
               subst hb
               have c4' : (s.BDR == s.DR) = false := by rw [← c5]; simpa using c4
               simp [q0, q10, q11, c1, c2, c3, c3', c4, c4', ← c5]
               refine hgo _ ?_ ?_ ?_ ?_ ?_ ?_ ?_ ?_ ?_ ?_ ?_
               all_goals simp [c1, ← c5]
             · have hb : sk = false := by rw [hsk2, decide_eq_false c4, decide_eq_false c5]; simp
               subst hb
               simp [q0, q10, q11, c1, c2, c3, c3', c4, c5]
               refine hgo _ ?_ ?_ ?_ ?_ ?_ ?_ ?_ ?_ ?_ ?_ ?_
               all_goals simp [c1, c5]
       · have hb : sk = false := by rw [hsk2, decide_eq_false c2]; simp
         subst hb
         simp [q0, q10, q11, c1, c2]
         refine hgo _ ?_ ?_ ?_ ?_ ?_ ?_ ?_ ?_ ?_ ?_ ?_
         all_goals simp [c1]
     · have hb : sk = false := by rw [hsk2, decide_eq_false c1]; simp
       subst hb
       simp [q0, q10, q11, c1]
       refine hgo _ ?_ ?_ ?_ ?_ ?_ ?_ ?_ ?_ ?_ ?_ ?_
       all_goals simp
end Go.Proofs.Ythonenmafbpbkaa

/- States that are the same; numbers that are the same. -/
namespace Go.Proofs.Ythonenmafbpbkaa
open Go Go.Am
set_option maxHeartbeats 4000000 in
set_option maxRecDepth 10000 in
theorem g88 (l : List Nbr) (n : Nat) (hn : l.length = n) (hlen : n < 8796093022208) (ok : ∀ x ∈ l, x.Lst.length < 8796093022208 ∧ x.Sent.length < 8796093022208 ∧ x.Req.length < 8796093022208 ∧ x.Una.length < 8796093022208) : CFun Try.prog 88 [.sl 15 (l.map encN) .sh, .sl 15 (l.map encN) .sh] [] (.bool true) [] := by
 refine CFun.intro (tr := []) (fz := []) (n := 27) (rs := [.tmp 4]) Try.func88 rfl (by kernel_rfl) rfl rfl mixed (by kernel_rfl) (by simp) (by simp) ?_
 simp [hn]
 refine LoopK.intro (tr := []) mixed (by kernel_rfl) (fun i : Nat => [(0, .sl 15 (l.map encN) .sh), (1, .sl 15 (l.map encN) .sh), (5, .int .i64 i)]) (fun _ => []) (fun i => i ≤ n) (fun i => n - i) 0 (Nat.zero_le _) ?_ ?_
 · simp
 intro i hin
 by_cases hi : i < n
 · have hil : i < l.length := by omega
   have hx : l[i]? = some l[i] := List.getElem?_eq_getElem hil
   obtain ⟨x, hx'⟩ : ∃ x, x = l[i] := ⟨_, rfl⟩
   rw [← hx'] at hx
   obtain ⟨o1, o2, o3, o4⟩ := ok x (List.mem_of_getElem? hx)
   have k15 := fun H => (x12 x o1 o2 o3 o4).up' H rfl rfl
   have w1 : IntKind.i64.wrap ((i : Int) + 1) = i + 1 := wrap_in (by omega)
   simp [hi, hn, hx, gE hx]
   refine ⟨_, _, .inl (by simpa using k15 _), by simp, ?_⟩
   simp [w1]
   exact ⟨i + 1, hi, by omega, by simp⟩
 · simp [hi, hn]
set_option maxHeartbeats 4000000 in
set_option maxRecDepth 10000 in
theorem g48 (s : Ifs) (hlen : s.Nb.length < 8796093022208) (ok : ∀ x ∈ s.Nb, x.Lst.length < 8796093022208 ∧ x.Sent.length < 8796093022208 ∧ x.Req.length < 8796093022208 ∧ x.Una.length < 8796093022208) : CFun Try.prog 48 [encIf s, encIf s] [] (.bool true) [] := by
 refine CFun.intro (tr := []) (fz := []) (n := 52) (rs := [.tmp 4]) Try.func48 rfl (by kernel_rfl) rfl rfl mixed (by kernel_rfl) (by simp) (by simp) ?_
 have k := fun H => (g88 s.Nb _ rfl hlen ok).up' H rfl rfl
 simp
 refine ⟨_, _, .inl (by simpa using k _), by simp, ?_⟩
 simp
set_option maxHeartbeats 4000000 in
set_option maxRecDepth 10000 in
theorem g13 (l : List Ifs) (n : Nat) (hn : l.length = n) (hlen : n < 8796093022208) (ok : ∀ s ∈ l, s.Nb.length < 8796093022208 ∧ ∀ x ∈ s.Nb, x.Lst.length < 8796093022208 ∧ x.Sent.length < 8796093022208 ∧ x.Req.length < 8796093022208 ∧ x.Una.length < 8796093022208) : CFun Try.prog 13 [.sl 15 (l.map encIf) .sh, .sl 15 (l.map encIf) .sh] [] (.bool true) [] := by
 refine CFun.intro (tr := []) (fz := []) (n := 27) (rs := [.tmp 4]) Try.func13 rfl (by kernel_rfl) rfl rfl mixed (by kernel_rfl) (by simp) (by simp) ?_
 simp [hn]
 refine LoopK.intro (tr := []) mixed (by kernel_rfl) (fun i : Nat => [(0, .sl 15 (l.map encIf) .sh), (1, .sl 15 (l.map encIf) .sh), (5, .int .i64 i)]) (fun _ => []) (fun i => i ≤ n) (fun i => n - i) 0 (Nat.zero_le _) ?_ ?_
 · simp
 intro i hin
 by_cases hi : i < n
 · have hil : i < l.length := by omega
   have hx : l[i]? = some l[i] := List.getElem?_eq_getElem hil
   obtain ⟨x, hx'⟩ : ∃ x, x = l[i] := ⟨_, rfl⟩
   rw [← hx'] at hx
   obtain ⟨o1, o2⟩ := ok x (List.mem_of_getElem? hx)
   have k15 := fun H => (g48 x o1 o2).up' H rfl rfl
   have w1 : IntKind.i64.wrap ((i : Int) + 1) = i + 1 := wrap_in (by omega)
   simp [hi, hn, hx, gE hx]
   refine ⟨_, _, .inl (by simpa using k15 _), by simp, ?_⟩
   simp [w1]
   exact ⟨i + 1, hi, by omega, by simp⟩
 · simp [hi, hn]
set_option maxHeartbeats 4000000 in
set_option maxRecDepth 10000 in
theorem g14 (l : List Nat) (n : Nat) (hn : l.length = n) (hlen : n < 8796093022208) : CFun Try.prog 14 [.sl 1 (l.map fun i => .int .i64 (i : Nat)) .sh, .sl 1 (l.map fun i => .int .i64 (i : Nat)) .sh] [] (.bool true) [] := by
 refine CFun.intro (tr := []) (fz := []) (n := 26) (rs := [.tmp 4]) Try.func14 rfl (by kernel_rfl) rfl rfl mixed (by kernel_rfl) (by simp) (by simp) ?_
 simp [hn]
 refine LoopK.intro (tr := []) mixed (by kernel_rfl) (fun i : Nat => [(0, .sl 1 (l.map fun i => .int .i64 (i : Nat)) .sh), (1, .sl 1 (l.map fun i => .int .i64 (i : Nat)) .sh), (5, .int .i64 i)]) (fun _ => []) (fun i => i ≤ n) (fun i => n - i) 0 (Nat.zero_le _) ?_ ?_
 · simp
 intro i hin
 by_cases hi : i < n
 · have hil : i < l.length := by omega
   have hx : l[i]? = some l[i] := List.getElem?_eq_getElem hil
   obtain ⟨x, hx'⟩ : ∃ x, x = l[i] := ⟨_, rfl⟩
   rw [← hx'] at hx
   have w1 : IntKind.i64.wrap ((i : Int) + 1) = i + 1 := wrap_in (by omega)
   simp [hi, hn, hx, gE hx, w1]
   exact ⟨i + 1, hi, by omega, by simp⟩
 · simp [hi, hn]
end Go.Proofs.Ythonenmafbpbkaa

/- Flooding: no interfaces; ordered lists; the law FloodSpreads. -/
namespace Go.Proofs.Ythonenmafbpbkaa
open Go Go.Am
set_option maxHeartbeats 4000000 in
set_option maxRecDepth 10000 in
theorem r37e : CFun Try.prog 37 [.sl 15 [] .sh] [] (.sl 15 [] .full) [] := by
 refine CFun.intro (tr := [100009]) (fz := []) (n := 51) (rs := [.tmp 2]) Try.func37 rfl (by kernel_rfl) rfl rfl mixed (by kernel_rfl) (by simp) (by simp) ?_
 simp
 refine LoopK.intro (tr := [100009]) mixed (by kernel_rfl) (fun _ : Unit => [(3, .sl 15 [] .full), (14, .int .i64 0), (15, .int .i64 0)]) (fun _ => []) (fun _ => True) (fun _ => 0) () trivial ?_ ?_
 · simp
 · simp
set_option maxHeartbeats 4000000 in
set_option maxRecDepth 10000 in
theorem r11e (areas : List Int) (fr snd : Int) (h : Hdr) (now : Int) :
   CFun Try.prog 11 [.sl 15 [] .sh, .sl 1 (areas.map encW) .sh, .int .i64 fr, .int .u32 snd, encH h, .int .i64 now] [] (.tup [.sl 15 [] .sh, .sl 1 [] .sh]) [] := by
 refine CFun.intro (tr := [150, 200104, 600017]) (fz := []) (n := 157) (rs := [.tmp 12, .tmp 13]) Try.func11 rfl (by kernel_rfl) rfl rfl mixed (by kernel_rfl) (by simp) (by simp) ?_
 have k37 := fun H => r37e.up' H rfl rfl
 simp
 refine ⟨_, _, .inl (by simpa using k37 _), by simp, ?_⟩
 simp
 refine LoopK.intro (tr := [150, 200104, 600017]) mixed (by kernel_rfl) (fun _ : Unit => [(14, .sl 15 [] .full), (15, .sl 1 [] .full), (26, .int .i64 0), (27, .int .i64 0)]) (fun _ => []) (fun _ => True) (fun _ => 0) () trivial ?_ ?_
 · simp [LeV, LeS]
 · simp [LeV, LeS]
theorem r11a (l : List Ifs) (hl : l.length * 120 ≤ 140737488351232) (ok : ∀ s ∈ l, okIf s) (asc : ∀ s ∈ l, ∀ n ∈ s.Nb, ascH n.Una) (areas : List Int) (har : areas.length < 140737488355328) (fr snd : Int) (h : Hdr) (now : Int) (hnow : 0 ≤ now ∧ now ≤ 1099511627776) :
   CFun Try.prog 11 [.sl 15 (l.map encIf) .sh, .sl 1 (areas.map encW) .sh, .int .i64 fr, .int .u32 snd, encH h, .int .i64 now] [] (.tup [.sl 15 ((sprL areas fr snd h now 0 l).1.map encIf) .sh, .sl 1 ((sprL areas fr snd h now 0 l).2.map fun i => .int .i64 (i : Nat)) .sh]) [] := by
 by_cases hne : l = []
 · subst hne
   exact r11e areas fr snd h now
 · exact r11 l hne hl ok asc areas har fr snd h now hnow
def okOrd (l : List Ifs) : Bool := l.all fun s => s.Nb.all fun n => ordH n.Una && ordH n.Req
set_option maxHeartbeats 8000000 in
set_option maxRecDepth 10000 in
theorem g9 (l : List Ifs) (n : Nat) (hn : l.length = n) (hlen : n < 8796093022208) (ok : ∀ s ∈ l, okIf s) : CFun Try.prog 9 [.sl 15 (l.map encIf) .sh] [] (.bool (okOrd l)) [] := by
 refine CFun.intro (tr := []) (fz := []) (n := 40) (rs := [.tmp 2]) Try.func9 rfl (by kernel_rfl) rfl rfl mixed (by kernel_rfl) (by simp) (by simp) ?_
 generalize hq : okOrd l = q
 simp
 refine LoopK.intro (tr := []) mixed (by kernel_rfl) (fun i : Nat => [(0, .sl 15 (l.map encIf) .sh), (3, .int .i64 i)]) (fun _ => []) (fun i => i ≤ n ∧ okOrd (l.drop i) = q) (fun i => n - i) 0 ?_ ?_ ?_
 · exact ⟨Nat.zero_le _, by simpa using hq⟩
 · simp
 rintro i ⟨i1, i2⟩
 by_cases hi : i < n
 · obtain ⟨s, hs, hd⟩ := get_drop (l := l) (i := i) (by omega)
   have hil : i < l.length := by omega
   have oks := ok s (List.mem_of_getElem? hs)
   have onb := oks.nb
   have w1 : IntKind.i64.wrap ((i : Int) + 1) = i + 1 := wrap_in (by omega)
   rw [hd] at i2
   have i3 : ((s.Nb.all fun n => ordH n.Una && ordH n.Req) && okOrd (l.drop (i + 1))) = q := by simpa [okOrd] using i2
   obtain ⟨m, hm⟩ : ∃ m, m = s.Nb.length := ⟨_, rfl⟩
   have hm' : s.Nb.length = m := hm.symm
   generalize hQ : LoopPost _ _ _ _ _ _ _ = Q
   simp [hi, hn]
   refine LoopK.intro (tr := []) mixed (by kernel_rfl) (fun j : Nat => [(0, .sl 15 (l.map encIf) .sh), (3, .int .i64 i), (4, .int .i64 j)]) (fun _ => []) (fun j => j ≤ m ∧ (((s.Nb.drop j).all fun n => ordH n.Una && ordH n.Req) && okOrd (l.drop (i + 1))) = q) (fun j => m - j) 0 ?_ ?_ ?_
   · exact ⟨Nat.zero_le _, by simpa using i3⟩
   · simp
   rintro j ⟨j1, j2⟩
   by_cases hj : j < m
   · obtain ⟨x, hx, hdx⟩ := get_drop (l := s.Nb) (i := j) (by omega)
     have hjl : j < s.Nb.length := by omega
     have okx := oks.nbs x (List.mem_of_getElem? hx)
     have o1 := okx.req
     have o2 := okx.una
     have w2 : IntKind.i64.wrap ((j : Int) + 1) = j + 1 := wrap_in (by omega)
     have ka := fun H => (x19 x.Una _ rfl (by omega)).up' H rfl rfl
     have kb := fun H => (x19 x.Req _ rfl (by omega)).up' H rfl rfl
     rw [hdx, List.all_cons] at j2
     generalize ordH x.Una = ba at *
     generalize ordH x.Req = bb at *
     simp [hi, hn, hil, hs, gE hs, hj, hm', hjl, hx, gE hx]
     refine ⟨_, _, .inl (by simpa using ka _), by simp, ?_⟩
     cases ba with
     | false =>
       simp at j2
       subst j2
       simp
       rw [← hQ]
       simp
     | true =>
       simp
       refine ⟨_, _, .inl (by simpa using kb _), by simp, ?_⟩
       cases bb with
       | false =>
         simp at j2
         subst j2
         simp
         rw [← hQ]
         simp
       | true =>
         simp [w2]
         exact ⟨j + 1, ⟨hj, by simpa using j2⟩, by omega, by simp⟩
   · rw [List.drop_eq_nil_of_le (by omega)] at j2
     simp at j2
     have hjm : j = m := by omega
     simp [hi, hn, hil, hs, gE hs, hjm, hm', w1]
     rw [← hQ]
     simp only [LoopPost]
     exact ⟨i + 1, ⟨hi, j2⟩, by omega, by simp⟩
 · rw [List.drop_eq_nil_of_le (by omega)] at i2
   have : true = q := by simpa [okOrd] using i2
   subst this
   simp [hi, hn]
theorem okOrd_asc {l : List Ifs} (h : okOrd l = true) : ∀ s ∈ l, ∀ n ∈ s.Nb, ascH n.Una ∧ ascH n.Req := by
 intro s hs n hn
 have h1 := List.all_eq_true.1 h s hs
 have h2 := List.all_eq_true.1 h1 n hn
 rw [Bool.and_eq_true] at h2
 exact ⟨ordH_asc h2.1, ordH_asc h2.2⟩
end Go.Proofs.Ythonenmafbpbkaa

/- The law FloodSpreads. -/
namespace Go.Proofs.Ythonenmafbpbkaa
open Go Go.Am
theorem lessR_len (n : Nbr) (i : Nat) : (lessR n i).Lst = n.Lst ∧ (lessR n i).Sent = n.Sent ∧ (lessR n i).Una = n.Una ∧ (lessR n i).Req.length ≤ n.Req.length := by
 have h := List.length_eraseIdx_le n.Req i
 unfold lessR
 split <;> exact ⟨rfl, rfl, rfl, h⟩
theorem reqN_len (n : Nbr) (h : Hdr) : (reqN n h).1.Lst = n.Lst ∧ (reqN n h).1.Sent = n.Sent ∧ (reqN n h).1.Una = n.Una ∧ (reqN n h).1.Req.length ≤ n.Req.length := by
 unfold reqN
 split
 · exact ⟨rfl, rfl, rfl, Nat.le_refl _⟩
 · split
   · exact ⟨rfl, rfl, rfl, Nat.le_refl _⟩
   · split
     · exact ⟨rfl, rfl, rfl, Nat.le_refl _⟩
     · exact lessR_len _ _
def okLs (n : Nbr) : Prop := n.Lst.length < 8796093022208 ∧ n.Sent.length < 8796093022208 ∧ n.Req.length < 8796093022208 ∧ n.Una.length < 8796093022208
theorem okLs_rem {n : Nbr} {h : Hdr} (hn : okN n) : okLs (remN n h) := by
 have h1 := hn.lst
 have h2 := hn.sent
 have h3 := hn.req
 have h4 := hn.una
 have h5 : (remN n h).Una.length ≤ n.Una.length := List.length_filter_le _ _
 refine ⟨?_, ?_, ?_, ?_⟩
 · show n.Lst.length < _; omega
 · show n.Sent.length < _; omega
 · show n.Req.length < _; omega
 · omega
theorem okLs_giv {n : Nbr} {h : Hdr} {fr : Bool} {snd now : Int} (hn : okN n) : okLs (givP fr snd h now (remN n h)).1 := by
 have h1 := hn.lst
 have h2 := hn.sent
 have h3 := hn.req
 have h4 := hn.una
 have h5 : (remN n h).Una.length ≤ n.Una.length := List.length_filter_le _ _
 have h6 : (remN n h).Req = n.Req := rfl
 have h7 : (remN n h).Lst = n.Lst := rfl
 have h8 : (remN n h).Sent = n.Sent := rfl
 obtain ⟨r1, r2, r3, r4⟩ := reqN_len (remN n h) h
 unfold givP
 split
 · exact okLs_rem hn
 · split
   · exact ⟨by rw [r1, h7]; omega, by rw [r2, h8]; omega, by show (reqN (remN n h) h).1.Req.length < _; rw [h6] at r4; omega, by rw [r3]; omega⟩
   · split
     · exact ⟨by rw [r1, h7]; omega, by rw [r2, h8]; omega, by show (reqN (remN n h) h).1.Req.length < _; rw [h6] at r4; omega, by rw [r3]; omega⟩
     · refine ⟨?_, ?_, ?_, ?_⟩
       · show (reqN (remN n h) h).1.Lst.length < _; rw [r1, h7]; omega
       · show (reqN (remN n h) h).1.Sent.length < _; rw [r2, h8]; omega
       · show (reqN (remN n h) h).1.Req.length < _; rw [h6] at r4; omega
       · show (insL (reqN (remN n h) h).1.Una _ h).length < _
         rw [insL_len (posH_le _ _), r3]; omega
theorem sprI_ok {areas : List Int} {fr : Bool} {snd : Int} {h : Hdr} {now : Int} {s : Ifs} (oks : okIf s) : (sprI areas fr snd h now s).1.Nb.length = s.Nb.length ∧ ∀ x ∈ (sprI areas fr snd h now s).1.Nb, okLs x := by
 unfold sprI
 split
 · refine ⟨rfl, fun x hx => ?_⟩
   have h0 := oks.nbs x hx
   have h1 := h0.lst
   have h2 := h0.sent
   have h3 := h0.req
   have h4 := h0.una
   exact ⟨by omega, by omega, by omega, by omega⟩
 · split
   · refine ⟨by simp, fun x hx => ?_⟩
     obtain ⟨n, hn, rfl⟩ := List.mem_map.1 hx
     exact okLs_rem (oks.nbs n hn)
   · refine ⟨by simp, fun x hx => ?_⟩
     obtain ⟨n, hn, rfl⟩ := List.mem_map.1 hx
     exact okLs_giv (oks.nbs n hn)
theorem sprL_ok {areas : List Int} {fr : Int} {snd : Int} {h : Hdr} {now : Int} : ∀ {l : List Ifs} {i : Nat}, (∀ s ∈ l, okIf s) → (sprL areas fr snd h now i l).1.length = l.length ∧ (sprL areas fr snd h now i l).2.length ≤ l.length ∧
   ∀ s ∈ (sprL areas fr snd h now i l).1, s.Nb.length < 8796093022208 ∧ ∀ x ∈ s.Nb, okLs x
 | [], i, _ => by simp [sprL]
 | s :: l, i, hs => by
   obtain ⟨h1, h2, h3⟩ := sprL_ok (l := l) (i := i + 1) (areas := areas) (fr := fr) (snd := snd) (h := h) (now := now) fun x hx => hs x (List.mem_cons_of_mem _ hx)
   have h4 := sprI_ok (areas := areas) (fr := decide ((i : Int) = fr)) (snd := snd) (h := h) (now := now) (hs s (by simp))
   have hb := (hs s (by simp)).nb
   simp only [sprL]
   refine ⟨by simp [h1], ?_, ?_⟩
   · split
     · simp [h2]
     · simp; omega
   · intro x hx
     rcases List.mem_cons.1 hx with rfl | hx
     · exact ⟨by rw [h4.1]; omega, h4.2⟩
     · exact h3 x hx
set_option maxHeartbeats 8000000 in
set_option maxRecDepth 10000 in
theorem g3 (l : List Ifs) (hl : l.length * 120 ≤ 140737488351232) (ok : ∀ s ∈ l, okIf s) (areas : List Int) (har : areas.length < 140737488355328) (fr snd : Int) (h : Hdr) (hA : inI h.Age) (now : Int) :
   CFun Try.prog 3 [.sl 15 (l.map encIf) .sh, .sl 1 (areas.map encW) .sh, .int .i64 fr, .int .u32 snd, encH h, .int .i64 now] [] (.bool true) [] := by
 refine CFun.intro (tr := []) (fz := []) (n := 60) (rs := [.tmp 12]) Try.func3 rfl (by kernel_rfl) rfl rfl mixed (by kernel_rfl) (by simp) (by simp) ?_
 have k10 := fun H => f10.up' H rfl rfl
 have k9 := fun H => (g9 l _ rfl (by omega) ok).up' H rfl rfl
 by_cases c1 : now < 0
 · simp [c1]
   refine ⟨_, _, .inl (by simpa using k10 _), by simp, ?_⟩
   simp
 by_cases c2 : 1099511627776 < now
 · simp [c1, c2]
   refine ⟨_, _, .inl (by simpa using k10 _), by simp, ?_⟩
   simp
 cases ho : okOrd l with
 | false =>
   rw [ho] at k9
   simp [c1, c2]
   refine ⟨_, _, .inl (by simpa using k9 _), by simp, ?_⟩
   simp
   refine ⟨_, _, .inl (by simpa using k10 _), by simp, ?_⟩
   simp
 | true =>
   rw [ho] at k9
   have asc := fun s hs n hn => (okOrd_asc ho s hs n hn).1
   have k11 := fun H => (r11a l hl ok asc areas har fr snd h now ⟨by omega, by omega⟩).up' H rfl rfl
   have k12 := fun H => (g12 l hl ok asc areas har fr snd h hA now ⟨by omega, by omega⟩).up' H rfl rfl
   obtain ⟨s1, s2, s3⟩ := sprL_ok (areas := areas) (fr := fr) (snd := snd) (h := h) (now := now) (l := l) (i := 0) ok
   generalize sprL areas fr snd h now 0 l = R at *
   have k13 := fun H => (g13 R.1 _ rfl (by omega) s3).up' H rfl rfl
   have k14 := fun H => (g14 R.2 _ rfl (by omega)).up' H rfl rfl
   clear s3 asc ok
   simp [c1, c2]
   refine ⟨_, _, .inl (by simpa using k9 _), by simp, ?_⟩
   simp
   refine ⟨_, _, .inl (by simpa using k11 _), by simp, ?_⟩
   simp
   refine ⟨_, _, .inl (by simpa using k12 _), by simp, ?_⟩
   simp
   refine ⟨_, _, .inl (by simpa using k13 _), by simp, ?_⟩
   simp
   refine ⟨_, _, .inl (by simpa using k14 _), by simp, ?_⟩
   simp
   refine ⟨_, _, .inl (by simpa using k10 _), by simp, ?_⟩
   simp
end Go.Proofs.Ythonenmafbpbkaa

/- Ack for a neighbor whose list may have grown by one. -/
namespace Go.Proofs.Ythonenmafbpbkaa
open Go Go.Am
end Go.Proofs.Ythonenmafbpbkaa

/- Flooding: what is left of a key after Spread and after an acknowledgement. No program. -/
namespace Go.Proofs.Ythonenmafbpbkaa
open Go Go.Am
theorem cmpH_self (h : Hdr) (hA : inI h.Age) : cmpH h h = 0 := by
 have := cmpH_neg h h hA hA
 omega
end Go.Proofs.Ythonenmafbpbkaa

/- The law FloodOnce. -/
namespace Go.Proofs.Ythonenmafbpbkaa
open Go Go.Am
end Go.Proofs.Ythonenmafbpbkaa
