import Derived.Test.YtfngaildaoahpaaXDS19
set_option linter.unusedSimpArgs false
set_option linter.unusedVariables false
namespace Go.Proofs.Ytfngaildaoahpaa
open Go Go.Am
@[simp] def encP (p : Int × Int) : AVal := .agg [.int .u32 p.1, .int .i64 p.2]
theorem sameB_self (a : Lsa) : sameB a a = true := by simp [sameB]
end Go.Proofs.Ytfngaildaoahpaa

namespace Go.Proofs.Ytfngaildaoahpaa
open Go Go.Am
theorem ofGift {P : Program} {f : FuncId} {args : List AVal} {H H' : List (List AVal)} {x : AVal} (h : CFunO P f args H x H') (ha : args.all (fun y => !y.isOwn) = true) : CFun P f args H x H' := by
 refine ⟨h.1, fun G w cargs h1 h2 h3 h4 h5 => h.2 G w cargs h1 h2 h3 h4 fun i y v hy hv => ⟨h5 i y v hy hv, OwnAt.of_not ?_⟩⟩
 simp only [List.all_eq_true, Bool.not_eq_true'] at ha
 exact ha y (List.mem_of_getElem? hy)
def Acc (b : List Int) (x : AVal) : Prop := x = .sl 1 (b.map enc8) .own ∨ (b = [] ∧ ∃ k, x = .sl k [] .full)
set_option maxHeartbeats 2000000 in
set_option maxRecDepth 10000 in
theorem o61 (n : Nat) (h1 : 1 ≤ n) (hn : n ≤ 8) (b : List Int) (X : AVal) (hX : Acc b X) (hb : b.length < 1099511627000) (y : Int) (H : List (List AVal)) (hH : LeBoxes H.length H H) :
   CFunO Try.prog 116 [X, .int .i64 n, .int .u64 y] H (.sl 1 ((b ++ numB n y).map enc8) .own) H := by
 refine CFunO.intro (tr := [14, 23]) (fz := []) (n := 24) (rs := [.tmp 6]) Try.func116 rfl (by kernel_rfl) rfl rfl mixed (by kernel_rfl) (by simp) ?_
 have w0 : IntKind.i64.wrap ((n : Int) - 1) = n - 1 := wrap_in (by omega)
 simp [w0, -List.map_append]
 refine LoopK.intro (tr := [14, 23]) mixed (by kernel_rfl) (fun q : Nat × List Int × AVal => [(0, q.2.2), (2, .int .u64 y), (7, .int .i64 ((q.1 : Int) - 1))]) (fun _ => H) (fun q => q.1 ≤ n ∧ Acc q.2.1 q.2.2 ∧ q.2.1.length + q.1 = b.length + n ∧ q.2.1 ++ numB q.1 y = b ++ numB n y) (fun q => q.1) (n, b, X) ?_ ?_ ?_
 · exact ⟨Nat.le_refl _, hX, rfl, rfl⟩
 · rcases hX with rfl | ⟨rfl, kk, rfl⟩ <;> simp [hH]
 · rintro ⟨k, out, Y⟩ ⟨k1, k2, k3, k4⟩
   simp only at k1 k2 k3 k4
   cases k with
   | zero =>
     simp only [numB, List.append_nil] at k4
     rcases k2 with rfl | ⟨rfl, kk, rfl⟩
     · simp [k4, hH, -List.map_append]
     · have := congrArg List.length k4
       simp [numB_len] at this
       omega
   | succ k =>
     have w1 : IntKind.i64.wrap (8 * (k : Int)) = 8 * k := wrap_in (by omega)
     have w2 : IntKind.i64.wrap ((k : Int) - 1) = k - 1 := wrap_in (by omega)
     have w3 : IntKind.u64.wrap (8 * (k : Int)) = 8 * k := by rw [wrap_u64]; omega
     have g0 : (0 : Int) ≤ k := by omega
     have g5 : ¬ (8 * (k : Int) < 0) := by omega
     have g6 : min (8 * (k : Int)).toNat IntKind.u64.bits = 8 * k := by
       have : IntKind.u64.bits = 64 := rfl
       omega
     have s1 : out.length + 1 ≤ 140737488355328 := by omega
     have hbt : IntKind.u8.wrap (y.fdiv (2 ^ (8 * k))) = bt y k := rfl
     have hnx : (out ++ [bt y k]) ++ numB k y = b ++ numB n y := by rw [← k4]; simp [numB]
     rcases k2 with rfl | ⟨rfl, kk, rfl⟩
     · simp [w1, w2, w3, g0, g5, g6, s1, hbt, hH]
       exact ⟨k, out ++ [bt y k], _, ⟨by omega, .inl rfl, by simp; omega, hnx⟩, by omega, by simp, by simp, rfl⟩
     · simp [w1, w2, w3, g0, g5, g6, hbt, hH]
       exact ⟨k, [bt y k], _, ⟨by omega, .inl rfl, by simp at k3 ⊢; omega, by simpa using hnx⟩, by omega, by simp, by simp, rfl⟩
end Go.Proofs.Ytfngaildaoahpaa

namespace Go.Proofs.Ytfngaildaoahpaa
open Go Go.Am
theorem c61z (n : Nat) (h1 : 1 ≤ n) (hn : n ≤ 8) (k : Nat) (y : Int) : CFun Try.prog 116 [.sl k [] .full, .int .i64 n, .int .u64 y] [] (.sl 1 ((numB n y).map enc8) .own) [] :=
 ofGift (o61 n h1 hn [] _ (.inr ⟨rfl, k, rfl⟩) (by simp) y [] trivial) rfl
theorem u61z (n : Nat) (h1 : 1 ≤ n) (hn : n ≤ 8) (k : Nat) (y : Int) (H : List (List AVal)) : CFun Try.prog 116 [.sl k [] .full, .int .i64 n, .int .u64 y] H (.sl 1 ((numB n y).map enc8) .own) H :=
 (c61z n h1 hn k y).up' H rfl rfl
theorem p61 (n : Nat) (b : List Int) (y : Int) (H : List (List AVal)) (h1 : 1 ≤ n) (hn : n ≤ 8) (hb : b.length < 1099511627000) (hH : LeBoxes H.length H H) :
 CFunO Try.prog 116 [.sl 1 (b.map enc8) .own, .int .i64 n, .int .u64 y] H (.sl 1 ((b ++ numB n y).map enc8) .own) H := o61 n h1 hn b _ (.inl rfl) hb y H hH
theorem c89 (a b : Bool) : CFun Try.prog 120 [.bool a, .bool b] [] (.int .u64 (orU (flagI a 1) (flagI b 2))) [] := by
 refine CFun.intro (tr := []) (fz := []) (n := 11) (rs := [.tmp 4]) Try.func120 rfl (by kernel_rfl) rfl rfl mixed (by kernel_rfl) (by simp) (by simp) ?_
 cases a <;> cases b <;> simp [flagI] <;> decide
set_option maxHeartbeats 2000000 in
set_option maxRecDepth 10000 in
theorem c35 (h : Hdr) : CFun Try.prog 117 [encH h] [] (.sl 1 ((hdrB h).map enc8) .own) [] := by
 refine CFun.intro (tr := [8, 13, 18, 23, 28, 33, 400012, 400017, 400022, 400027, 400032, 400037]) (fz := []) (n := 38) (rs := [.tmp 2]) Try.func117 rfl (by kernel_rfl) rfl rfl mixed (by kernel_rfl) (by simp) (by simp) ?_
 simp
 refine ⟨_, _, .inl (u61z 2 (by omega) (by omega) _ (U h.Age) _), by simp, ?_⟩
 simp [-List.map_append]
 refine ⟨_, _, p61 1 _ (U h.Ty) _ (by omega) (by omega) (by simp [numB_len]) (by simp), ?_⟩
 simp [-List.map_append]
 refine ⟨_, _, p61 1 _ (U h.Len) _ (by omega) (by omega) (by simp [numB_len]) (by simp), ?_⟩
 simp [-List.map_append]
 refine ⟨_, _, p61 4 _ (U h.ID) _ (by omega) (by omega) (by simp [numB_len]) (by simp), ?_⟩
 simp [-List.map_append]
 refine ⟨_, _, p61 4 _ (U h.Router) _ (by omega) (by omega) (by simp [numB_len]) (by simp), ?_⟩
 simp [-List.map_append]
 refine ⟨_, _, p61 4 _ (U h.Seq) _ (by omega) (by omega) (by simp [numB_len]) (by simp), ?_⟩
 simp [-List.map_append]
 refine ⟨_, _, p61 2 _ (U h.Sum) _ (by omega) (by omega) (by simp [numB_len]) (by simp), ?_⟩
 simp [-List.map_append, hdrB]
end Go.Proofs.Ytfngaildaoahpaa

namespace Go.Proofs.Ytfngaildaoahpaa
open Go Go.Am
set_option linter.unusedSimpArgs false
theorem orU_f (b : Bool) : orU (flagI b 1) (flagI false 2) = flagI b 1 := by cases b <;> decide
theorem p61z (n : Nat) (k : Nat) (y : Int) (H : List (List AVal)) (h1 : 1 ≤ n) (hn : n ≤ 8) (hH : LeBoxes H.length H H) :
 CFunO Try.prog 116 [.sl k [] .full, .int .i64 n, .int .u64 y] H (.sl 1 ((numB n y).map enc8) .own) H := o61 n h1 hn [] _ (.inr ⟨rfl, k, rfl⟩) (by simp) y H hH
set_option maxHeartbeats 4000000 in
set_option maxRecDepth 10000 in
theorem c60 (l : Lsa) (hl : l.Links.length ≤ 64) (ha : l.Att.length ≤ 64) : CFun Try.prog 115 [encA l] [] (encBs (bodyB l)) [] := by
 refine CFun.intro (tr := [12, 19, 32, 41, 50, 59, 70, 83, 94, 101, 106, 111, 116, 400018, 400024, 400040, 400049, 400058, 400067, 400075, 400090, 400098, 400105, 400110, 400115, 400120]) (fz := []) (n := 122) (rs := [.tmp 2]) Try.func115 rfl (by kernel_rfl) rfl rfl mixed (by kernel_rfl) (by simp) (by simp) ?_
 have h89 : ∀ a b H, CFun Try.prog 120 [.bool a, .bool b] H (.int .u64 (orU (flagI a 1) (flagI b 2))) H := fun a b H => (c89 a b).up' H rfl rfl
 by_cases t3 : l.H.Ty = 3
 · simp [t3]
   refine ⟨_, _, p61z 4 _ (U l.Cost) _ (by omega) (by omega) (by simp), ?_⟩
   simp [bodyB, t3]
 by_cases t4 : l.H.Ty = 4
 · simp [t4]
   refine ⟨_, _, p61z 4 _ (U l.Cost) _ (by omega) (by omega) (by simp), ?_⟩
   simp [bodyB, t4]
 by_cases t5 : l.H.Ty = 5
 · simp [t5]
   refine ⟨_, _, .inl (h89 _ _ _), trivial, ?_⟩
   simp
   refine ⟨_, _, p61z 1 _ (orU (flagI l.Second 1) (flagI false 2)) _ (by omega) (by omega) (by simp), ?_⟩
   simp
   refine ⟨_, _, p61 4 _ (U l.Cost) _ (by omega) (by omega) (by simp [numB_len]) (by simp), ?_⟩
   simp [-List.map_append]
   refine ⟨_, _, p61 4 _ (U l.Fwd) _ (by omega) (by omega) (by simp [numB_len]) (by simp), ?_⟩
   simp [-List.map_append]
   refine ⟨_, _, p61 4 _ (U l.Tag) _ (by omega) (by omega) (by simp [numB_len]) (by simp), ?_⟩
   simp [-List.map_append, bodyB, t5, orU_f]
 by_cases t1 : l.H.Ty = 1
 · have h1 : bodyB l = numB 1 (orU (flagI l.Border 1) (flagI l.Boundary 2)) ++ numB 1 (U l.Links.length) ++ (l.Links.map linkB).flatten := by simp [bodyB, t1]
   rw [h1]
   obtain ⟨n, hn⟩ : ∃ n, l.Links.length = n := ⟨_, rfl⟩
   have hc : (l.Links.length : Int) = n := by omega
   rw [hc]
   simp [t1, hc, -List.map_append, -List.append_assoc]
   refine ⟨_, _, .inl (h89 _ _ _), trivial, ?_⟩
   simp [-List.map_append, -List.append_assoc]
   refine ⟨_, _, p61z 1 _ (orU (flagI l.Border 1) (flagI l.Boundary 2)) _ (by omega) (by omega) (by simp), ?_⟩
   simp [hc, -List.map_append, -List.append_assoc]
   refine ⟨_, _, p61 1 _ (U n) _ (by omega) (by omega) (by simp [numB_len]) (by simp), ?_⟩
   have hp : (numB 1 (orU (flagI l.Border 1) (flagI l.Boundary 2)) ++ numB 1 (U n)).length = 2 := by simp [numB_len]
   generalize numB 1 (orU (flagI l.Border 1) (flagI l.Boundary 2)) ++ numB 1 (U n) = pre at hp ⊢
   simp [hc, -List.map_append, -List.append_assoc]
   refine LoopK.intro (tr := [12, 19, 32, 41, 50, 59, 70, 83, 94, 101, 106, 111, 116, 400018, 400024, 400040, 400049, 400058, 400067, 400075, 400090, 400098, 400105, 400110, 400115, 400120]) mixed (by kernel_rfl) (fun q : Nat × List Int => [(1, .ptr 0 0), (3, .sl 1 (q.2.map enc8) .own), (4, .int .i64 q.1), (9, .int .i64 1)]) (fun q => [cellsA l])
     (fun q => q.1 ≤ n ∧ q.2.length ≤ 2 + 11 * q.1 ∧ q.2 = pre ++ ((l.Links.map linkB).take q.1).flatten) (fun q => n - q.1) (0, pre) ?_ ?_ ?_
   · exact ⟨by simp, by simp [hp], by simp⟩
   · simp [t1]
   · rintro ⟨i, out⟩ ⟨k1, k2, k3⟩
     simp only at k1 k2 k3
     by_cases hi : i < n
     · obtain ⟨x, hx, _⟩ := get_drop (l := l.Links) (i := i) (by omega)
       have w1 : IntKind.i64.wrap ((i : Int) + 1) = i + 1 := wrap_in (by omega)
       have hnx := take_map linkB l.Links i x hx
       have s0 : out.length < 1099511620000 := by omega
       simp [hi, hx, hc]
       refine ⟨_, _, p61 1 _ (U x.Kind) _ (by omega) (by omega) (by first | omega | (simp [numB_len]; omega)) (by simp), ?_⟩
       simp [-List.map_append, hi, hx, hc]
       refine ⟨_, _, p61 4 _ (U x.ID) _ (by omega) (by omega) (by first | omega | (simp [numB_len]; omega)) (by simp), ?_⟩
       simp [-List.map_append, hi, hx, hc]
       refine ⟨_, _, p61 4 _ (U x.Data) _ (by omega) (by omega) (by first | omega | (simp [numB_len]; omega)) (by simp), ?_⟩
       simp [-List.map_append, hi, hx, hc]
       refine ⟨_, _, p61 2 _ (U x.Cost) _ (by omega) (by omega) (by first | omega | (simp [numB_len]; omega)) (by simp), ?_⟩
       simp [-List.map_append, w1]
       refine ⟨i + 1, out ++ linkB x, ⟨by omega, by rw [List.length_append, linkB_len]; omega, ?_⟩, by omega, by simp [linkB], by simp⟩
       show out ++ linkB x = pre ++ ((l.Links.map linkB).take (i + 1)).flatten
       rw [hnx, ← List.append_assoc, ← k3]
     · have hin : i = n := by omega
       subst hin
       have ht : (l.Links.map linkB).take i = l.Links.map linkB := List.take_of_length_le (by simp; omega)
       rw [ht] at k3
       simp [k3, hc]
 by_cases t2 : l.H.Ty = 2
 · have h1 : bodyB l = numB 1 (U l.Att.length) ++ (l.Att.map attB).flatten := by simp [bodyB, t2]
   rw [h1]
   obtain ⟨n, hn⟩ : ∃ n, l.Att.length = n := ⟨_, rfl⟩
   have hc : (l.Att.length : Int) = n := by omega
   rw [hc]
   simp [t2, hc, -List.map_append]
   refine ⟨_, _, p61z 1 _ (U n) _ (by omega) (by omega) (by simp), ?_⟩
   have hp : (numB 1 (U n)).length = 1 := by simp [numB_len]
   generalize numB 1 (U n) = pre at hp ⊢
   simp [hc, -List.map_append]
   refine LoopK.intro (tr := [12, 19, 32, 41, 50, 59, 70, 83, 94, 101, 106, 111, 116, 400018, 400024, 400040, 400049, 400058, 400067, 400075, 400090, 400098, 400105, 400110, 400115, 400120]) mixed (by kernel_rfl) (fun q : Nat × List Int => [(1, .ptr 0 0), (3, .sl 1 (q.2.map enc8) .own), (5, .int .i64 q.1), (9, .int .i64 2)]) (fun q => [cellsA l])
     (fun q => q.1 ≤ n ∧ q.2.length ≤ 1 + 4 * q.1 ∧ q.2 = pre ++ ((l.Att.map attB).take q.1).flatten) (fun q => n - q.1) (0, pre) ?_ ?_ ?_
   · exact ⟨by simp, by simp [hp], by simp⟩
   · simp [t2]
   · rintro ⟨i, out⟩ ⟨k1, k2, k3⟩
     simp only at k1 k2 k3
     by_cases hi : i < n
     · obtain ⟨x, hx, _⟩ := get_drop (l := l.Att) (i := i) (by omega)
       have w1 : IntKind.i64.wrap ((i : Int) + 1) = i + 1 := wrap_in (by omega)
       have hnx := take_map attB l.Att i x hx
       have s0 : out.length < 1099511620000 := by omega
       simp [hi, hx, hc]
       refine ⟨_, _, p61 4 _ (U x) _ (by omega) (by omega) (by first | omega | (simp [numB_len]; omega)) (by simp), ?_⟩
       simp [-List.map_append, w1]
       refine ⟨i + 1, out ++ attB x, ⟨by omega, by rw [List.length_append, attB_len]; omega, ?_⟩, by omega, by simp [attB], by simp⟩
       show out ++ attB x = pre ++ ((l.Att.map attB).take (i + 1)).flatten
       rw [hnx, ← List.append_assoc, ← k3]
     · have hin : i = n := by omega
       subst hin
       have ht : (l.Att.map attB).take i = l.Att.map attB := List.take_of_length_le (by simp; omega)
       rw [ht] at k3
       simp [k3, hc]
 · simp [t1, t2, t3, t4, t5, bodyB]
end Go.Proofs.Ytfngaildaoahpaa
