import Derived.Test.YthonenmafbpbkaaFXDS21
set_option linter.unusedSimpArgs false
set_option linter.unusedVariables false
namespace Go.Proofs.Ythonenmafbpbkaa
open Go Go.Am
theorem c61z (n : Nat) (h1 : 1 ≤ n) (hn : n ≤ 8) (k : Nat) (y : Int) : CFun Try.prog 117 [.sl k [] .full, .int .i64 n, .int .u64 y] [] (.sl 1 ((numB n y).map enc8) .own) [] :=
 ofGift (o61 n h1 hn [] _ (.inr ⟨rfl, k, rfl⟩) (by simp) y [] trivial) rfl
theorem u61z (n : Nat) (h1 : 1 ≤ n) (hn : n ≤ 8) (k : Nat) (y : Int) (H : List (List AVal)) : CFun Try.prog 117 [.sl k [] .full, .int .i64 n, .int .u64 y] H (.sl 1 ((numB n y).map enc8) .own) H :=
 (c61z n h1 hn k y).up' H rfl rfl
theorem p61 (n : Nat) (b : List Int) (y : Int) (H : List (List AVal)) (h1 : 1 ≤ n) (hn : n ≤ 8) (hb : b.length < 1099511627000) (hH : LeBoxes H.length H H) :
 CFunO Try.prog 117 [.sl 1 (b.map enc8) .own, .int .i64 n, .int .u64 y] H (.sl 1 ((b ++ numB n y).map enc8) .own) H := o61 n h1 hn b _ (.inl rfl) hb y H hH
theorem c89 (a b : Bool) : CFun Try.prog 121 [.bool a, .bool b] [] (.int .u64 (orU (flagI a 1) (flagI b 2))) [] := by
 refine CFun.intro (tr := []) (fz := []) (n := 11) (rs := [.tmp 4]) Try.func121 rfl (by kernel_rfl) rfl rfl mixed (by kernel_rfl) (by simp) (by simp) ?_
 cases a <;> cases b <;> simp [flagI] <;> decide
set_option maxHeartbeats 2000000 in
set_option maxRecDepth 10000 in
theorem c35 (h : Hdr) : CFun Try.prog 118 [encH h] [] (.sl 1 ((hdrB h).map enc8) .own) [] := by
 refine CFun.intro (tr := [8, 13, 18, 23, 28, 33, 400012, 400017, 400022, 400027, 400032, 400037]) (fz := []) (n := 38) (rs := [.tmp 2]) Try.func118 rfl (by kernel_rfl) rfl rfl mixed (by kernel_rfl) (by simp) (by simp) ?_
 simp
 refine ⟨_, _, .inl (u61z 2 (by omega) (by omega) _ (U h.Age) _), by simp, ?_⟩
 simp [-List.map_append]
 refine ⟨_, _, p61 1 _ (U h.Ty) _ (by omega) (by omega) (by simp [numB_len]) (by simp), ?_⟩
 simp [-List.map_append]
 refine ⟨_, _, p61 1 _ (U h.Len) _ (by omega) (by omega) (by simp [numB_len]) (by simp), ?_⟩
 simp [-List.map_append]
 refine ⟨_, _, p61 4 _ (U h.ID) _ (by omega) (by omega) (by simp [numB_len]) (by simp), ?_⟩
 simp [-List.map_append]
 refine ⟨_, _, p61 4 _ (U h.Router) _ (by omega) (by omega) (by simp [numB_len]) (by simp), ?_⟩
 simp [-List.map_append]
 refine ⟨_, _, p61 4 _ (U h.Seq) _ (by omega) (by omega) (by simp [numB_len]) (by simp), ?_⟩
 simp [-List.map_append]
 refine ⟨_, _, p61 2 _ (U h.Sum) _ (by omega) (by omega) (by simp [numB_len]) (by simp), ?_⟩
 simp [-List.map_append, hdrB]
end Go.Proofs.Ythonenmafbpbkaa

namespace Go.Proofs.Ythonenmafbpbkaa
open Go Go.Am
set_option linter.unusedSimpArgs false
theorem orU_f (b : Bool) : orU (flagI b 1) (flagI false 2) = flagI b 1 := by cases b <;> decide
theorem p61z (n : Nat) (k : Nat) (y : Int) (H : List (List AVal)) (h1 : 1 ≤ n) (hn : n ≤ 8) (hH : LeBoxes H.length H H) :
 CFunO Try.prog 117 [.sl k [] .full, .int .i64 n, .int .u64 y] H (.sl 1 ((numB n y).map enc8) .own) H := o61 n h1 hn [] _ (.inr ⟨rfl, k, rfl⟩) (by simp) y H hH
set_option maxHeartbeats 4000000 in
set_option maxRecDepth 10000 in
theorem c60 (l : Lsa) (hl : l.Links.length ≤ 64) (ha : l.Att.length ≤ 64) : CFun Try.prog 116 [encA l] [] (encBs (bodyB l)) [] := by
 refine CFun.intro (tr := [12, 19, 32, 41, 50, 59, 70, 83, 94, 101, 106, 111, 116, 400018, 400024, 400040, 400049, 400058, 400067, 400075, 400090, 400098, 400105, 400110, 400115, 400120]) (fz := []) (n := 122) (rs := [.tmp 2]) Try.func116 rfl (by kernel_rfl) rfl rfl mixed (by kernel_rfl) (by simp) (by simp) ?_
 have h89 : ∀ a b H, CFun Try.prog 121 [.bool a, .bool b] H (.int .u64 (orU (flagI a 1) (flagI b 2))) H := fun a b H => (c89 a b).up' H rfl rfl
 by_cases t3 : l.H.Ty = 3
 · simp [t3]
   refine ⟨_, _, p61z 4 _ (U l.Cost) _ (by omega) (by omega) (by simp), ?_⟩
   simp [bodyB, t3]
 by_cases t4 : l.H.Ty = 4
 · simp [t4]
   refine ⟨_, _, p61z 4 _ (U l.Cost) _ (by omega) (by omega) (by simp), ?_⟩
   simp [bodyB, t4]
 by_cases t5 : l.H.Ty = 5
 · simp [t5]
   refine ⟨_, _, .inl (h89 _ _ _), trivial, ?_⟩
   simp
   refine ⟨_, _, p61z 1 _ (orU (flagI l.Second 1) (flagI false 2)) _ (by omega) (by omega) (by simp), ?_⟩
   simp
   refine ⟨_, _, p61 4 _ (U l.Cost) _ (by omega) (by omega) (by simp [numB_len]) (by simp), ?_⟩
   simp [-List.map_append]
   refine ⟨_, _, p61 4 _ (U l.Fwd) _ (by omega) (by omega) (by simp [numB_len]) (by simp), ?_⟩
   simp [-List.map_append]
   refine ⟨_, _, p61 4 _ (U l.Tag) _ (by omega) (by omega) (by simp [numB_len]) (by simp), ?_⟩
   simp [-List.map_append, bodyB, t5, orU_f]
 by_cases t1 : l.H.Ty = 1
 · have h1 : bodyB l = numB 1 (orU (flagI l.Border 1) (flagI l.Boundary 2)) ++ numB 1 (U l.Links.length) ++ (l.Links.map linkB).flatten := by simp [bodyB, t1]
   rw [h1]
   obtain ⟨n, hn⟩ : ∃ n, l.Links.length = n := ⟨_, rfl⟩
   have hc : (l.Links.length : Int) = n := by omega
   rw [hc]
   simp [t1, hc, -List.map_append, -List.append_assoc]
   refine ⟨_, _, .inl (h89 _ _ _), trivial, ?_⟩
   simp [-List.map_append, -List.append_assoc]
   refine ⟨_, _, p61z 1 _ (orU (flagI l.Border 1) (flagI l.Boundary 2)) _ (by omega) (by omega) (by simp), ?_⟩
   simp [hc, -List.map_append, -List.append_assoc]
   refine ⟨_, _, p61 1 _ (U n) _ (by omega) (by omega) (by simp [numB_len]) (by simp), ?_⟩
   have hp : (numB 1 (orU (flagI l.Border 1) (flagI l.Boundary 2)) ++ numB 1 (U n)).length = 2 := by simp [numB_len]
   generalize numB 1 (orU (flagI l.Border 1) (flagI l.Boundary 2)) ++ numB 1 (U n) = pre at hp ⊢
   simp [hc, -List.map_append, -List.append_assoc]
   refine LoopK.intro (tr := [12, 19, 32, 41, 50, 59, 70, 83, 94, 101, 106, 111, 116, 400018, 400024, 400040, 400049, 400058, 400067, 400075, 400090, 400098, 400105, 400110, 400115, 400120]) mixed (by kernel_rfl) (fun q : Nat × List Int => [(1, .ptr 0 0), (3, .sl 1 (q.2.map enc8) .own), (4, .int .i64 q.1), (9, .int .i64 1)]) (fun q => [cellsA l])
     (fun q => q.1 ≤ n ∧ q.2.length ≤ 2 + 11 * q.1 ∧ q.2 = pre ++ ((l.Links.map linkB).take q.1).flatten) (fun q => n - q.1) (0, pre) ?_ ?_ ?_
   · exact ⟨by simp, by simp [hp], by simp⟩
   · simp [t1]
   · rintro ⟨i, out⟩ ⟨k1, k2, k3⟩
     simp only at k1 k2 k3
     by_cases hi : i < n
     · obtain ⟨x, hx, _⟩ := get_drop (l := l.Links) (i := i) (by omega)
       have w1 : IntKind.i64.wrap ((i : Int) + 1) = i + 1 := wrap_in (by omega)
       have hnx := take_map linkB l.Links i x hx
       have s0 : out.length < 1099511620000 := by omega
       simp [hi, hx, hc]
       refine ⟨_, _, p61 1 _ (U x.Kind) _ (by omega) (by omega) (by first | omega | (simp [numB_len]; omega)) (by simp), ?_⟩
       simp [-List.map_append, hi, hx, hc]
       refine ⟨_, _, p61 4 _ (U x.ID) _ (by omega) (by omega) (by first | omega | (simp [numB_len]; omega)) (by simp), ?_⟩
       simp [-List.map_append, hi, hx, hc]
       refine ⟨_, _, p61 4 _ (U x.Data) _ (by omega) (by omega) (by first | omega | (simp [numB_len]; omega)) (by simp), ?_⟩
       simp [-List.map_append, hi, hx, hc]
       refine ⟨_, _, p61 2 _ (U x.Cost) _ (by omega) (by omega) (by first | omega | (simp [numB_len]; omega)) (by simp), ?_⟩
       simp [-List.map_append, w1]
       refine ⟨i + 1, out ++ linkB x, ⟨by omega, by rw [List.length_append, linkB_len]; omega, ?_⟩, by omega, by simp [linkB], by simp⟩
       show out ++ linkB x = pre ++ ((l.Links.map linkB).take (i + 1)).flatten
       rw [hnx, ← List.append_assoc, ← k3]
     · have hin : i = n := by omega
       subst hin
       have ht : (l.Links.map linkB).take i = l.Links.map linkB := List.take_of_length_le (by simp; omega)
       rw [ht] at k3
       simp [k3, hc]
 by_cases t2 : l.H.Ty = 2
 · have h1 : bodyB l = numB 1 (U l.Att.length) ++ (l.Att.map attB).flatten := by simp [bodyB, t2]
   rw [h1]
   obtain ⟨n, hn⟩ : ∃ n, l.Att.length = n := ⟨_, rfl⟩
   have hc : (l.Att.length : Int) = n := by omega
   rw [hc]
   simp [t2, hc, -List.map_append]
   refine ⟨_, _, p61z 1 _ (U n) _ (by omega) (by omega) (by simp), ?_⟩
   have hp : (numB 1 (U n)).length = 1 := by simp [numB_len]
   generalize numB 1 (U n) = pre at hp ⊢
   simp [hc, -List.map_append]
   refine LoopK.intro (tr := [12, 19, 32, 41, 50, 59, 70, 83, 94, 101, 106, 111, 116, 400018, 400024, 400040, 400049, 400058, 400067, 400075, 400090, 400098, 400105, 400110, 400115, 400120]) mixed (by kernel_rfl) (fun q : Nat × List Int => [(1, .ptr 0 0), (3, .sl 1 (q.2.map enc8) .own), (5, .int .i64 q.1), (9, .int .i64 2)]) (fun q => [cellsA l])
     (fun q => q.1 ≤ n ∧ q.2.length ≤ 1 + 4 * q.1 ∧ q.2 = pre ++ ((l.Att.map attB).take q.1).flatten) (fun q => n - q.1) (0, pre) ?_ ?_ ?_
   · exact ⟨by simp, by simp [hp], by simp⟩
   · simp [t2]
   · rintro ⟨i, out⟩ ⟨k1, k2, k3⟩
     simp only at k1 k2 k3
     by_cases hi : i < n
     · obtain ⟨x, hx, _⟩ := get_drop (l := l.Att) (i := i) (by omega)
       have w1 : IntKind.i64.wrap ((i : Int) + 1) = i + 1 := wrap_in (by omega)
       have hnx := take_map attB l.Att i x hx
       have s0 : out.length < 1099511620000 := by omega
       simp [hi, hx, hc]
       refine ⟨_, _, p61 4 _ (U x) _ (by omega) (by omega) (by first | omega | (simp [numB_len]; omega)) (by simp), ?_⟩
       simp [-List.map_append, w1]
       refine ⟨i + 1, out ++ attB x, ⟨by omega, by rw [List.length_append, attB_len]; omega, ?_⟩, by omega, by simp [attB], by simp⟩
       show out ++ attB x = pre ++ ((l.Att.map attB).take (i + 1)).flatten
       rw [hnx, ← List.append_assoc, ← k3]
     · have hin : i = n := by omega
       subst hin
       have ht : (l.Att.map attB).take i = l.Att.map attB := List.take_of_length_le (by simp; omega)
       rw [ht] at k3
       simp [k3, hc]
 · simp [t1, t2, t3, t4, t5, bodyB]
end Go.Proofs.Ythonenmafbpbkaa

namespace Go.Proofs.Ythonenmafbpbkaa
open Go Go.Am
set_option linter.unusedSimpArgs false
set_option maxHeartbeats 1000000 in
set_option maxRecDepth 10000 in
theorem c24 (l : Lsa) (hl : l.Links.length ≤ 64) (ha : l.Att.length ≤ 64) : CFun Try.prog 103 [encA l] [] (encBs (bytesA l)) [] := by
 refine CFun.intro (tr := [14, 400013]) (fz := []) (n := 18) (rs := [.tmp 2]) Try.func103 rfl (by kernel_rfl) rfl rfl mixed (by kernel_rfl) (by simp) (by simp) ?_
 have h60 := (c60 l hl ha).up' [cellsA l] rfl rfl
 have h35 := (c35 l.H).up' [cellsA l] rfl rfl
 have hb := bodyB_len l hl ha
 have s1 : (hdrB l.H).length + 2 + (bodyB l).length ≤ 140737488355328 := by rw [hdrB_len]; omega
 have hbc : ((bodyB l).length : Int) = ((bodyB l).length : Nat) := rfl
 simp
 refine ⟨_, _, .inl h60, trivial, ?_⟩
 simp
 refine ⟨_, _, .inl h35, trivial, ?_⟩
 simp
 refine ⟨_, _, p61 2 _ (U (bodyB l).length) _ (by omega) (by omega) (by rw [hdrB_len]; omega) (by simp), ?_⟩
 simp [numB_len, s1, bytesA]
set_option maxHeartbeats 2000000 in
set_option maxRecDepth 10000 in
theorem c99 (b : List Int) (n : Nat) (hn : (b.length : Int) = n) (hlen : n < 1099511627776) : CFun Try.prog 114 [encBs b] [] (.tup [.int .i64 (sumsL n (-1) b 0 (0, 0)).1, .int .i64 (sumsL n (-1) b 0 (0, 0)).2]) [] := by
 refine CFun.intro (tr := []) (fz := []) (n := 37) (rs := [.tmp 2, .tmp 3]) Try.func114 rfl (by kernel_rfl) rfl rfl mixed (by kernel_rfl) (by simp) (by simp) ?_
 simp
 refine LoopK.intro (tr := []) mixed (by kernel_rfl) (fun q : Nat × Int × Int => [(0, encBs b), (4, .int .i64 q.2.1), (5, .int .i64 q.2.2), (6, .int .i64 q.1)]) (fun q => [])
   (fun q => q.1 ≤ n ∧ sumsL n (-1) b 0 (0, 0) = sumsL n (-1) (b.drop q.1) q.1 q.2) (fun q => n - q.1) (0, 0, 0) ?_ ?_ ?_
 · simp
 · simp
 · rintro ⟨i, s0, s1⟩ ⟨h1, h2⟩
   simp only at h1 h2
   by_cases hi : i < n
   · obtain ⟨x, hx, hd⟩ := get_drop (l := b) (i := i) (by omega)
     rw [hd] at h2
     have w1 : IntKind.i64.wrap ((i : Int) + 1) = i + 1 := wrap_in (by omega)
     simp only [sumsL, sumStep] at h2
     rw [if_neg (by omega)] at h2
     clear hd
     simp [hi, hx, hn, w1]
     exact ⟨i + 1, _, _, ⟨by omega, h2⟩, by omega, rfl, rfl, by simp⟩
   · have e : b.drop i = [] := List.drop_of_length_le (by omega)
     rw [e] at h2
     simp [sumsL] at h2
     simp [hi, hn, h2]
theorem cells8 (b : List Int) : (b.map enc8).flatMap AVal.cells = b.map enc8 := by
 induction b with
 | nil => rfl
 | cons x b ih => simp only [List.map_cons, List.flatMap_cons, ih]; rfl
theorem dis8 (b : List Int) : (b.map enc8).map AVal.dis = b.map enc8 := by
 induction b with
 | nil => rfl
 | cons x b ih => simp only [List.map_cons, ih]; rfl
theorem set8 (b : List Int) (i : Nat) (x : Int) : (b.map enc8).set i (.int .u8 x) = (b.set i x).map enc8 := (List.map_set).symm
theorem tree8 (b : List Int) : (b.map enc8).all AVal.tree = true := by
 induction b with
 | nil => rfl
 | cons x b ih => simp only [List.map_cons, List.all_cons, ih]; rfl
theorem chunk8 (b : List Int) (n : Nat) (h : b.length = n) : chunk false (b.map enc8) 0 1 n = b.map enc8 := by
 subst h
 apply List.ext_getElem?
 intro q
 simp only [chunk, List.getElem?_map]
 by_cases hq : q < b.length
 · have hx : b[q]? = some b[q] := List.getElem?_eq_getElem hq
   rw [List.getElem?_range hq, hx]
   simp [hq, List.getD]
 · rw [List.getElem?_eq_none (by simpa using hq), List.getElem?_eq_none (by simpa using hq)]
   rfl
theorem wrap8_64 (x : Int) : IntKind.u8.wrap (IntKind.i64.wrap x) = IntKind.u8.wrap x := by
 rw [IntKind.wrap_i64]
 show (_ % 256 : Int) = x % 256
 omega
def withB (b : List Int) (at_ : Nat) (v : Int) : List Int := (b.set at_ (IntKind.u8.wrap (v.tdiv 256))).set (at_ + 1) (IntKind.u8.wrap (v.tmod 256))
set_option maxHeartbeats 2000000 in
set_option maxRecDepth 10000 in
theorem c100 (b : List Int) (at_ : Nat) (hat : at_ + 1 < b.length) (hlen : b.length < 1099511627776) (v : Int) : CFun Try.prog 115 [encBs b, .int .i64 at_, .int .i64 v] [] (encBs (withB b at_ v)) [] := by
 refine CFun.intro (tr := [100010]) (fz := [(6, 0, false)]) (n := 25) (rs := [.tmp 6]) Try.func115 rfl (by kernel_rfl) rfl rfl mixed (by kernel_rfl) (by simp) (by simp) ?_
 obtain ⟨n, hn⟩ : ∃ n, b.length = n := ⟨_, rfl⟩
 have hc : (b.length : Int) = n := by omega
 have w1 : IntKind.i64.wrap ((at_ : Int) + 1) = at_ + 1 := wrap_in (by omega)
 have a1 : (at_ : Int) < n := by omega
 have a2 : n ≤ 140737488355328 := by omega
 have a3 : 0 < n := by omega
 have a4 : (at_ : Int) + 1 < n := by omega
 have a5 : (0 : Int) ≤ at_ + 1 := by omega
 have a6 : ((at_ : Int) + 1).toNat = at_ + 1 := by omega
 have a7 : at_ < n := by omega
 have a8 : at_ + 1 < n := by omega
 have a9 : at_ + 1 ≤ n := by omega
 have a10 : at_ + 1 + 1 ≤ n := by omega
 have a11 : at_ + 2 ≤ n := by omega
 have hl : (withB b at_ v).length = n := by simp [withB, hn]
 have hch := chunk8 (withB b at_ v) n hl
 have htr := tree8 (withB b at_ v)
 have htk : ((withB b at_ v).map enc8).take n = (withB b at_ v).map enc8 := List.take_of_length_le (by simp [hl])
 have hw : (b.set at_ (IntKind.u8.wrap (v.tdiv 256))).set (at_ + 1) (IntKind.u8.wrap (v.tmod 256)) = withB b at_ v := rfl
 simp [hn, hc, w1, a1, a2, a3, a4, a5, a6, a7, a8, a9, a10, a11, cells8, dis8, set8, hw, hch, htr, htk, hl, wrap8_64, -enc8, -List.map_set, -List.all_eq_true, -List.map_map]
end Go.Proofs.Ythonenmafbpbkaa
