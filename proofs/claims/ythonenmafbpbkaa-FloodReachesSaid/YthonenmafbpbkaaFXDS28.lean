import Derived.Test.YthonenmafbpbkaaFXDS21
set_option linter.unusedSimpArgs false
set_option linter.unusedVariables false
namespace Go.Proofs.Ythonenmafbpbkaa
open Go Go.Am
theorem c61z (n : Nat) (h1 : 1 ≤ n) (hn : n ≤ 8) (k : Nat) (y : Int) : CFun Try.prog 117 [.sl k [] .full, .int .i64 n, .int .u64 y] [] (.sl 1 ((numB n y).map enc8) .own) [] :=
 ofGift (o61 n h1 hn [] _ (.inr ⟨rfl, k, rfl⟩) (by simp) y [] trivial) rfl
theorem u61z (n : Nat) (h1 : 1 ≤ n) (hn : n ≤ 8) (k : Nat) (y : Int) (H : List (List AVal)) : CFun Try.prog 117 [.sl k [] .full, .int .i64 n, .int .u64 y] H (.sl 1 ((numB n y).map enc8) .own) H :=
 (c61z n h1 hn k y).up' H rfl rfl
theorem p61 (n : Nat) (b : List Int) (y : Int) (H : List (List AVal)) (h1 : 1 ≤ n) (hn : n ≤ 8) (hb : b.length < 1099511627000) (hH : LeBoxes H.length H H) :
 CFunO Try.prog 117 [.sl 1 (b.map enc8) .own, .int .i64 n, .int .u64 y] H (.sl 1 ((b ++ numB n y).map enc8) .own) H := o61 n h1 hn b _ (.inl rfl) hb y H hH
theorem c89 (a b : Bool) : CFun Try.prog 121 [.bool a, .bool b] [] (.int .u64 (orU (flagI a 1) (flagI b 2))) [] := by
 refine CFun.intro (tr := []) (fz := []) (n := 11) (rs := [.tmp 4]) Try.func121 rfl (by kernel_rfl) rfl rfl mixed (by kernel_rfl) (by simp) (by simp) ?_
 cases a <;> cases b <;> simp [flagI] <;> decide
set_option maxHeartbeats 2000000 in
set_option maxRecDepth 10000 in
theorem c35 (h : Hdr) : CFun Try.prog 118 [encH h] [] (.sl 1 ((hdrB h).map enc8) .own) [] := by
 refine CFun.intro (tr := [8, 13, 18, 23, 28, 33, 400012, 400017, 400022, 400027, 400032, 400037]) (fz := []) (n := 38) (rs := [.tmp 2]) Try.func118 rfl (by kernel_rfl) rfl rfl mixed (by kernel_rfl) (by simp) (by simp) ?_
 simp
 refine ⟨_, _, .inl (u61z 2 (by omega) (by omega) _ (U h.Age) _), by simp, ?_⟩
 simp [-List.map_append]
 refine ⟨_, _, p61 1 _ (U h.Ty) _ (by omega) (by omega) (by simp [numB_len]) (by simp), ?_⟩
 simp [-List.map_append]
 refine ⟨_, _, p61 1 _ (U h.Len) _ (by omega) (by omega) (by simp [numB_len]) (by simp), ?_⟩
 simp [-List.map_append]
 refine ⟨_, _, p61 4 _ (U h.ID) _ (by omega) (by omega) (by simp [numB_len]) (by simp), ?_⟩
 simp [-List.map_append]
 refine ⟨_, _, p61 4 _ (U h.Router) _ (by omega) (by omega) (by simp [numB_len]) (by simp), ?_⟩
 simp [-List.map_append]
 refine ⟨_, _, p61 4 _ (U h.Seq) _ (by omega) (by omega) (by simp [numB_len]) (by simp), ?_⟩
 simp [-List.map_append]
 refine ⟨_, _, p61 2 _ (U h.Sum) _ (by omega) (by omega) (by simp [numB_len]) (by simp), ?_⟩
 simp [-List.map_append, hdrB]
end Go.Proofs.Ythonenmafbpbkaa

namespace Go.Proofs.Ythonenmafbpbkaa
open Go Go.Am
set_option linter.unusedSimpArgs false
theorem orU_f (b : Bool) : orU (flagI b 1) (flagI false 2) = flagI b 1 := by cases b <;> decide
theorem p61z (n : Nat) (k : Nat) (y : Int) (H : List (List AVal)) (h1 : 1 ≤ n) (hn : n ≤ 8) (hH : LeBoxes H.length H H) :
 CFunO Try.prog 117 [.sl k [] .full, .int .i64 n, .int .u64 y] H (.sl 1 ((numB n y).map enc8) .own) H := o61 n h1 hn [] _ (.inr ⟨rfl, k, rfl⟩) (by simp) y H hH
set_option maxHeartbeats 4000000 in
set_option maxRecDepth 10000 in
theorem c60 (l : Lsa) (hl : l.Links.length ≤ 64) (ha : l.Att.length ≤ 64) : CFun Try.prog 116 [encA l] [] (encBs (bodyB l)) [] := by
 refine CFun.intro (tr := [12, 19, 32, 41, 50, 59, 70, 83, 94, 101, 106, 111, 116, 400018, 400024, 400040, 400049, 400058, 400067, 400075, 400090, 400098, 400105, 400110, 400115, 400120]) (fz := []) (n := 122) (rs := [.tmp 2]) Try.func116 rfl (by kernel_rfl) rfl rfl mixed (by kernel_rfl) (by simp) (by simp) ?_
 have h89 : ∀ a b H, CFun Try.prog 121 [.bool a, .bool b] H (.int .u64 (orU (flagI a 1) (flagI b 2))) H := fun a b H => (c89 a b).up' H rfl rfl
 by_cases t3 : l.H.Ty = 3
 · simp [t3]
   refine ⟨_, _, p61z 4 _ (U l.Cost) _ (by omega) (by omega) (by simp), ?_⟩
   simp [bodyB, t3]
 by_cases t4 : l.H.Ty = 4
 · simp [t4]
   refine ⟨_, _, p61z 4 _ (U l.Cost) _ (by omega) (by omega) (by simp), ?_⟩
   simp [bodyB, t4]
 by_cases t5 : l.H.Ty = 5
 · simp [t5]
   refine ⟨_, _, .inl (h89 _ _ _), trivial, ?_⟩
   simp
   refine ⟨_, _, p61z 1 _ (orU (flagI l.Second 1) (flagI false 2)) _ (by omega) (by omega) (by simp), ?_⟩
   simp
   refine ⟨_, _, p61 4 _ (U l.Cost) _ (by omega) (by omega) (by simp [numB_len]) (by simp), ?_⟩
   simp [-List.map_append]
   refine ⟨_, _, p61 4 _ (U l.Fwd) _ (by omega) (by omega) (by simp [numB_len]) (by simp), ?_⟩
   simp [-List.map_append]
   refine ⟨_, _, p61 4 _ (U l.Tag) _ (by omega) (by omega) (by simp [numB_len]) (by simp), ?_⟩
   simp [-List.map_append, bodyB, t5, orU_f]
 by_cases t1 : l.H.Ty = 1
 · have h1 : bodyB l = numB 1 (orU (flagI l.Border 1) (flagI l.Boundary 2)) ++ numB 1 (U l.Links.length) ++ (l.Links.map linkB).flatten := by simp [bodyB, t1]
   rw [h1]
   obtain ⟨n, hn⟩ : ∃ n, l.Links.length = n := ⟨_, rfl⟩
   have hc : (l.Links.length : Int) = n := by omega
   rw [hc]
   simp [t1, hc, -List.map_append, -List.append_assoc]
   refine ⟨_, _, .inl (h89 _ _ _), trivial, ?_⟩
   simp [-List.map_append, -List.append_assoc]
   refine ⟨_, _, p61z 1 _ (orU (flagI l.Border 1) (flagI l.Boundary 2)) _ (by omega) (by omega) (by simp), ?_⟩
   simp [hc, -List.map_append, -List.append_assoc]
   refine ⟨_, _, p61 1 _ (U n) _ (by omega) (by omega) (by simp [numB_len]) (by simp), ?_⟩
   have hp : (numB 1 (orU (flagI l.Border 1) (flagI l.Boundary 2)) ++ numB 1 (U n)).length = 2 := by simp [numB_len]
   generalize numB 1 (orU (flagI l.Border 1) (flagI l.Boundary 2)) ++ numB 1 (U n) = pre at hp ⊢
   simp [hc, -List.map_append, -List.append_assoc]
   refine LoopK.intro (tr := [12, 19, 32, 41, 50, 59, 70, 83, 94, 101, 106, 111, 116, 400018, 400024, 400040, 400049, 400058, 400067, 400075, 400090, 400098, 400105, 400110, 400115, 400120]) mixed (by kernel_rfl) (fun q : Nat × List Int => [(1, .ptr 0 0), (3, .sl 1 (q.2.map enc8) .own), (4, .int .i64 q.1), (9, .int .i64 1)]) (fun q => [cellsA l])
     (fun q => q.1 ≤ n ∧ q.2.length ≤ 2 + 11 * q.1 ∧ q.2 = pre ++ ((l.Links.map linkB).take q.1).flatten) (fun q => n - q.1) (0, pre) ?_ ?_ ?_
   · exact ⟨by simp, by simp [hp], by simp⟩
   · simp [t1]
   · rintro ⟨i, out⟩ ⟨k1, k2, k3⟩
     simp only at k1 k2 k3
     by_cases hi : i < n
     · obtain ⟨x, hx, _⟩ := get_drop (l := l.Links) (i := i) (by omega)
       have w1 : IntKind.i64.wrap ((i : Int) + 1) = i + 1 := wrap_in (by omega)
       have hnx := take_map linkB l.Links i x hx
       have s0 : out.length < 1099511620000 := by omega
       simp [hi, hx, hc]
       refine ⟨_, _, p61 1 _ (U x.Kind) _ (by omega) (by omega) (by first | omega | (simp [numB_len]; omega)) (by simp), ?_⟩
       simp [-List.map_append, hi, hx, hc]
       refine ⟨_, _, p61 4 _ (U x.ID) _ (by omega) (by omega) (by first | omega | (simp [numB_len]; omega)) (by simp), ?_⟩
       simp [-List.map_append, hi, hx, hc]
       refine ⟨_, _, p61 4 _ (U x.Data) _ (by omega) (by omega) (by first | omega | (simp [numB_len]; omega)) (by simp), ?_⟩
       simp [-List.map_append, hi, hx, hc]
       refine ⟨_, _, p61 2 _ (U x.Cost) _ (by omega) (by omega) (by first | omega | (simp [numB_len]; omega)) (by simp), ?_⟩
       simp [-List.map_append, w1]
       refine ⟨i + 1, out ++ linkB x, ⟨by omega, by rw [List.length_append, linkB_len]; omega, ?_⟩, by omega, by simp [linkB], by simp⟩
       show out ++ linkB x = pre ++ ((l.Links.map linkB).take (i + 1)).flatten
       rw [hnx, ← List.append_assoc, ← k3]
     · have hin : i = n := by omega
       subst hin
       have ht : (l.Links.map linkB).take i = l.Links.map linkB := List.take_of_length_le (by simp; omega)
       rw [ht] at k3
       simp [k3, hc]
 by_cases t2 : l.H.Ty = 2
 · have h1 : bodyB l = numB 1 (U l.Att.length) ++ (l.Att.map attB).flatten := by simp [bodyB, t2]
   rw [h1]
   obtain ⟨n, hn⟩ : ∃ n, l.Att.length = n := ⟨_, rfl⟩
   have hc : (l.Att.length : Int) = n := by omega
   rw [hc]
   simp [t2, hc, -List.map_append]
   refine ⟨_, _, p61z 1 _ (U n) _ (by omega) (by omega) (by simp), ?_⟩
   have hp : (numB 1 (U n)).length = 1 := by simp [numB_len]
   generalize numB 1 (U n) = pre at hp ⊢
   simp [hc, -List.map_append]
   refine LoopK.intro (tr := [12, 19, 32, 41, 50, 59, 70, 83, 94, 101, 106, 111, 116, 400018, 400024, 400040, 400049, 400058, 400067, 400075, 400090, 400098, 400105, 400110, 400115, 400120]) mixed (by kernel_rfl) (fun q : Nat × List Int => [(1, .ptr 0 0), (3, .sl 1 (q.2.map enc8) .own), (5, .int .i64 q.1), (9, .int .i64 2)]) (fun q => [cellsA l])
     (fun q => q.1 ≤ n ∧ q.2.length ≤ 1 + 4 * q.1 ∧ q.2 = pre ++ ((l.Att.map attB).take q.1).flatten) (fun q => n - q.1) (0, pre) ?_ ?_ ?_
   · exact ⟨by simp, by simp [hp], by simp⟩
   · simp [t2]
   · rintro ⟨i, out⟩ ⟨k1, k2, k3⟩
     simp only at k1 k2 k3
     by_cases hi : i < n
     · obtain ⟨x, hx, _⟩ := get_drop (l := l.Att) (i := i) (by omega)
       have w1 : IntKind.i64.wrap ((i : Int) + 1) = i + 1 := wrap_in (by omega)
       have hnx := take_map attB l.Att i x hx
       have s0 : out.length < 1099511620000 := by omega
       simp [hi, hx, hc]
       refine ⟨_, _, p61 4 _ (U x) _ (by omega) (by omega) (by first | omega | (simp [numB_len]; omega)) (by simp), ?_⟩
       simp [-List.map_append, w1]
       refine ⟨i + 1, out ++ attB x, ⟨by omega, by rw [List.length_append, attB_len]; omega, ?_⟩, by omega, by simp [attB], by simp⟩
       show out ++ attB x = pre ++ ((l.Att.map attB).take (i + 1)).flatten
       rw [hnx, ← List.append_assoc, ← k3]
     · have hin : i = n := by omega
       subst hin
       have ht : (l.Att.map attB).take i = l.Att.map attB := List.take_of_length_le (by simp; omega)
       rw [ht] at k3
       simp [k3, hc]
 · simp [t1, t2, t3, t4, t5, bodyB]
end Go.Proofs.Ythonenmafbpbkaa

namespace Go.Proofs.Ythonenmafbpbkaa
open Go Go.Am
set_option linter.unusedSimpArgs false
set_option maxHeartbeats 1000000 in
set_option maxRecDepth 10000 in
theorem c24 (l : Lsa) (hl : l.Links.length ≤ 64) (ha : l.Att.length ≤ 64) : CFun Try.prog 103 [encA l] [] (encBs (bytesA l)) [] := by
 refine CFun.intro (tr := [14, 400013]) (fz := []) (n := 18) (rs := [.tmp 2]) Try.func103 rfl (by kernel_rfl) rfl rfl mixed (by kernel_rfl) (by simp) (by simp) ?_
 have h60 := (c60 l hl ha).up' [cellsA l] rfl rfl
 have h35 := (c35 l.H).up' [cellsA l] rfl rfl
 have hb := bodyB_len l hl ha
 have s1 : (hdrB l.H).length + 2 + (bodyB l).length ≤ 140737488355328 := by rw [hdrB_len]; omega
 have hbc : ((bodyB l).length : Int) = ((bodyB l).length : Nat) := rfl
 simp
 refine ⟨_, _, .inl h60, trivial, ?_⟩
 simp
 refine ⟨_, _, .inl h35, trivial, ?_⟩
 simp
 refine ⟨_, _, p61 2 _ (U (bodyB l).length) _ (by omega) (by omega) (by rw [hdrB_len]; omega) (by simp), ?_⟩
 simp [numB_len, s1, bytesA]
set_option maxHeartbeats 2000000 in
set_option maxRecDepth 10000 in
theorem c99 (b : List Int) (n : Nat) (hn : (b.length : Int) = n) (hlen : n < 1099511627776) : CFun Try.prog 114 [encBs b] [] (.tup [.int .i64 (sumsL n (-1) b 0 (0, 0)).1, .int .i64 (sumsL n (-1) b 0 (0, 0)).2]) [] := by
 refine CFun.intro (tr := []) (fz := []) (n := 37) (rs := [.tmp 2, .tmp 3]) Try.func114 rfl (by kernel_rfl) rfl rfl mixed (by kernel_rfl) (by simp) (by simp) ?_
 simp
 refine LoopK.intro (tr := []) mixed (by kernel_rfl) (fun q : Nat × Int × Int => [(0, encBs b), (4, .int .i64 q.2.1), (5, .int .i64 q.2.2), (6, .int .i64 q.1)]) (fun q => [])
   (fun q => q.1 ≤ n ∧ sumsL n (-1) b 0 (0, 0) = sumsL n (-1) (b.drop q.1) q.1 q.2) (fun q => n - q.1) (0, 0, 0) ?_ ?_ ?_
 · simp
 · simp
 · rintro ⟨i, s0, s1⟩ ⟨h1, h2⟩
   simp only at h1 h2
   by_cases hi : i < n
   · obtain ⟨x, hx, hd⟩ := get_drop (l := b) (i := i) (by omega)
     rw [hd] at h2
     have w1 : IntKind.i64.wrap ((i : Int) + 1) = i + 1 := wrap_in (by omega)
     simp only [sumsL, sumStep] at h2
     rw [if_neg (by omega)] at h2
     clear hd
     simp [hi, hx, hn, w1]
     exact ⟨i + 1, _, _, ⟨by omega, h2⟩, by omega, rfl, rfl, by simp⟩
   · have e : b.drop i = [] := List.drop_of_length_le (by omega)
     rw [e] at h2
     simp [sumsL] at h2
     simp [hi, hn, h2]
theorem cells8 (b : List Int) : (b.map enc8).flatMap AVal.cells = b.map enc8 := by
 induction b with
 | nil => rfl
 | cons x b ih => simp only [List.map_cons, List.flatMap_cons, ih]; rfl
theorem dis8 (b : List Int) : (b.map enc8).map AVal.dis = b.map enc8 := by
 induction b with
 | nil => rfl
 | cons x b ih => simp only [List.map_cons, ih]; rfl
theorem set8 (b : List Int) (i : Nat) (x : Int) : (b.map enc8).set i (.int .u8 x) = (b.set i x).map enc8 := (List.map_set).symm
theorem tree8 (b : List Int) : (b.map enc8).all AVal.tree = true := by
 induction b with
 | nil => rfl
 | cons x b ih => simp only [List.map_cons, List.all_cons, ih]; rfl
theorem chunk8 (b : List Int) (n : Nat) (h : b.length = n) : chunk false (b.map enc8) 0 1 n = b.map enc8 := by
 subst h
 apply List.ext_getElem?
 intro q
 simp only [chunk, List.getElem?_map]
 by_cases hq : q < b.length
 · have hx : b[q]? = some b[q] := List.getElem?_eq_getElem hq
   rw [List.getElem?_range hq, hx]
   simp [hq, List.getD]
 · rw [List.getElem?_eq_none (by simpa using hq), List.getElem?_eq_none (by simpa using hq)]
   rfl
theorem wrap8_64 (x : Int) : IntKind.u8.wrap (IntKind.i64.wrap x) = IntKind.u8.wrap x := by
 rw [IntKind.wrap_i64]
 show (_ % 256 : Int) = x % 256
 omega
def withB (b : List Int) (at_ : Nat) (v : Int) : List Int := (b.set at_ (IntKind.u8.wrap (v.tdiv 256))).set (at_ + 1) (IntKind.u8.wrap (v.tmod 256))
set_option maxHeartbeats 2000000 in
set_option maxRecDepth 10000 in
theorem c100 (b : List Int) (at_ : Nat) (hat : at_ + 1 < b.length) (hlen : b.length < 1099511627776) (v : Int) : CFun Try.prog 115 [encBs b, .int .i64 at_, .int .i64 v] [] (encBs (withB b at_ v)) [] := by
 refine CFun.intro (tr := [100010]) (fz := [(6, 0, false)]) (n := 25) (rs := [.tmp 6]) Try.func115 rfl (by kernel_rfl) rfl rfl mixed (by kernel_rfl) (by simp) (by simp) ?_
 obtain ⟨n, hn⟩ : ∃ n, b.length = n := ⟨_, rfl⟩
 have hc : (b.length : Int) = n := by omega
 have w1 : IntKind.i64.wrap ((at_ : Int) + 1) = at_ + 1 := wrap_in (by omega)
 have a1 : (at_ : Int) < n := by omega
 have a2 : n ≤ 140737488355328 := by omega
 have a3 : 0 < n := by omega
 have a4 : (at_ : Int) + 1 < n := by omega
 have a5 : (0 : Int) ≤ at_ + 1 := by omega
 have a6 : ((at_ : Int) + 1).toNat = at_ + 1 := by omega
 have a7 : at_ < n := by omega
 have a8 : at_ + 1 < n := by omega
 have a9 : at_ + 1 ≤ n := by omega
 have a10 : at_ + 1 + 1 ≤ n := by omega
 have a11 : at_ + 2 ≤ n := by omega
 have hl : (withB b at_ v).length = n := by simp [withB, hn]
 have hch := chunk8 (withB b at_ v) n hl
 have htr := tree8 (withB b at_ v)
 have htk : ((withB b at_ v).map enc8).take n = (withB b at_ v).map enc8 := List.take_of_length_le (by simp [hl])
 have hw : (b.set at_ (IntKind.u8.wrap (v.tdiv 256))).set (at_ + 1) (IntKind.u8.wrap (v.tmod 256)) = withB b at_ v := rfl
 simp [hn, hc, w1, a1, a2, a3, a4, a5, a6, a7, a8, a9, a10, a11, cells8, dis8, set8, hw, hch, htr, htk, hl, wrap8_64, -enc8, -List.map_set, -List.all_eq_true, -List.map_map]
end Go.Proofs.Ythonenmafbpbkaa

namespace Go.Proofs.Ythonenmafbpbkaa
open Go Go.Am
set_option linter.unusedSimpArgs false
def isB (b : List Int) : Prop := ∀ x ∈ b, 0 ≤ x ∧ x ≤ 255
theorem wrap_i (x : Int) (h1 : -9223372036854775808 ≤ x) (h2 : x ≤ 9223372036854775807) : IntKind.i64.wrap x = x := wrap_in ⟨h1, h2⟩
theorem tmod_pos (x : Int) (h : 0 ≤ x) : x.tmod 255 = x % 255 := Int.tmod_eq_emod_of_nonneg h
theorem step_plain {n : Nat} (hn : n < 1099511627776) {i : Nat} (hi : i ≤ n) {s : Int × Int} (h0 : 0 ≤ s.1 ∧ s.1 < 255) (h1 : 0 ≤ s.2 ∧ s.2 < 255) {b : Int} (hb : 0 ≤ b ∧ b ≤ 255) :
   (IntKind.i64.wrap (s.1 + IntKind.i64.wrap b)).tmod 255 = (s.1 + b) % 255 ∧
   (IntKind.i64.wrap (s.2 + IntKind.i64.wrap ((IntKind.i64.wrap ((n : Int) - i)).tmod 255 * IntKind.i64.wrap b))).tmod 255 = (s.2 + (((n : Int) - i) % 255) * b) % 255 := by
 have e1 : IntKind.i64.wrap b = b := wrap_i b (by omega) (by omega)
 have e2 : IntKind.i64.wrap ((n : Int) - i) = n - i := wrap_i _ (by omega) (by omega)
 rw [e1, e2, tmod_pos ((n : Int) - i) (by omega)]
 have t0 : 0 ≤ ((n : Int) - i) % 255 := by omega
 have t1 : ((n : Int) - i) % 255 < 255 := by omega
 have p0 : 0 ≤ (((n : Int) - i) % 255) * b := Int.mul_nonneg t0 hb.1
 have p1 : (((n : Int) - i) % 255) * b ≤ 255 * 255 := Int.mul_le_mul (by omega) hb.2 hb.1 (by omega)
 generalize (((n : Int) - i) % 255) * b = p at p0 p1 ⊢
 rw [wrap_i p (by omega) (by omega), wrap_i (s.1 + b) (by omega) (by omega), wrap_i (s.2 + p) (by omega) (by omega), tmod_pos (s.1 + b) (by omega), tmod_pos (s.2 + p) (by omega)]
 exact ⟨rfl, rfl⟩
theorem step_lt (x : Int) : 0 ≤ x % 255 ∧ x % 255 < 255 := by omega
theorem sums_zero {n : Nat} (hn : n < 1099511627776) (at_ : Nat) (hat : at_ < n) : ∀ (l l' : List Int) (i : Nat) (s : Int × Int), l.length = l'.length → i + l.length ≤ n → isB l → (0 ≤ s.1 ∧ s.1 < 255) → (0 ≤ s.2 ∧ s.2 < 255) →
   (∀ j x y, l[j]? = some x → l'[j]? = some y → y = if i + j = at_ ∨ i + j = at_ + 1 then 0 else x) →
   sumsL n (-1) l' i s = sumsL n at_ l i s ∧ (0 ≤ (sumsL n at_ l i s).1 ∧ (sumsL n at_ l i s).1 < 255) ∧ (0 ≤ (sumsL n at_ l i s).2 ∧ (sumsL n at_ l i s).2 < 255) := by
 intro l
 induction l with
 | nil =>
   intro l' i s h1 h2 h3 h4 h5 h6
   have : l' = [] := List.eq_nil_of_length_eq_zero (by simpa using h1.symm)
   subst this
   exact ⟨rfl, h4, h5⟩
 | cons b l ih =>
   intro l' i s h1 h2 h3 h4 h5 h6
   cases l' with
   | nil => simp at h1
   | cons b' l' =>
     have hb := h3 b (by simp)
     have e := h6 0 b b' rfl rfl
     simp only [Nat.add_zero] at e
     have hi : i ≤ n := by simp at h2; omega
     have hw : IntKind.i64.wrap ((at_ : Int) + 1) = at_ + 1 := wrap_i _ (by omega) (by omega)
     simp only [sumsL]
     have hs1 : sumStep n (-1) i s b' = ((s.1 + b') % 255, (s.2 + (((n : Int) - i) % 255) * b') % 255) := by
       have hb' : 0 ≤ b' ∧ b' ≤ 255 := by rw [e]; split <;> omega
       obtain ⟨q1, q2⟩ := step_plain hn hi h4 h5 hb'
       simp only [sumStep]
       rw [if_neg (by omega), q1, q2]
     have hs2 : sumStep n at_ i s b = ((s.1 + b') % 255, (s.2 + (((n : Int) - i) % 255) * b') % 255) := by
       simp only [sumStep, hw]
       by_cases hz : i = at_ ∨ i = at_ + 1
       · rw [if_pos ⟨by omega, by omega⟩]
         rw [if_pos hz] at e
         subst e
         have r1 : (s.1 + 0) % 255 = s.1 := by omega
         have r2 : (s.2 + (((n : Int) - i) % 255) * 0) % 255 = s.2 := by rw [Int.mul_zero]; omega
         rw [r1, r2]
       · rw [if_neg (by omega)]
         rw [if_neg hz] at e
         subst e
         obtain ⟨q1, q2⟩ := step_plain hn hi h4 h5 hb
         rw [q1, q2]
     rw [hs1, hs2]
     exact ih l' (i + 1) _ (by simpa using h1) (by simp at h2; omega) (fun x hx => h3 x (by simp [hx])) (step_lt _) (step_lt _) (fun j x y hx hy => by
       have := h6 (j + 1) x y (by simpa using hx) (by simpa using hy)
       rw [this, show i + (j + 1) = i + 1 + j by omega])
theorem sums_with {b : List Int} (hb : isB b) (hn : b.length < 1099511627776) (at_ : Nat) (hat : at_ + 1 < b.length) :
   sumsL b.length (-1) (withB b at_ 0) 0 (0, 0) = sumsL b.length at_ b 0 (0, 0) ∧ (0 ≤ (sumsL b.length at_ b 0 (0, 0)).1 ∧ (sumsL b.length at_ b 0 (0, 0)).1 < 255) ∧ (0 ≤ (sumsL b.length at_ b 0 (0, 0)).2 ∧ (sumsL b.length at_ b 0 (0, 0)).2 < 255) := by
 refine sums_zero hn at_ (by omega) b (withB b at_ 0) 0 (0, 0) (by simp [withB]) (by simp) hb (by simp) (by simp) ?_
 intro j x y hx hy
 have z : IntKind.u8.wrap (Int.tdiv 0 256) = 0 := by decide
 have z' : IntKind.u8.wrap (Int.tmod 0 256) = 0 := by decide
 simp only [withB, z, z', List.getElem?_set] at hy
 rw [Nat.zero_add]
 have hj := (List.getElem?_eq_some_iff.1 hx).1
 by_cases h1 : at_ + 1 = j
 · rw [if_pos h1] at hy
   simp only [List.length_set] at hy
   rw [if_pos (by omega)] at hy
   injection hy with hy
   rw [if_pos (by omega), hy]
 · rw [if_neg h1] at hy
   by_cases h2 : at_ = j
   · rw [if_pos h2, if_pos (by omega)] at hy
     injection hy with hy
     rw [if_pos (by omega), hy]
   · rw [if_neg h2, hx] at hy
     injection hy with hy
     rw [if_neg (by omega), hy]
theorem resI_plain (n : Int) (h1 : -1000000 ≤ n) (h2 : n ≤ 1000000) : resI n = (n - 1) % 255 + 1 := by
 unfold resI
 rw [wrap_i (n - 1) (by omega) (by omega)]
 have h3 : -255 < (n - 1).tmod 255 := Int.lt_tmod_of_pos _ (by decide)
 have h4 : (n - 1).tmod 255 < 255 := Int.tmod_lt_of_pos _ (by decide)
 have h5 : ((n - 1).tmod 255 + 255) % 255 = (n - 1) % 255 := by
   have := Int.tmod_add_mul_tdiv (n - 1) 255
   omega
 have h6 : 0 ≤ ((n - 1).tmod 255 + 255) % 255 ∧ ((n - 1).tmod 255 + 255) % 255 < 255 := step_lt _
 rw [wrap_i ((n - 1).tmod 255 + 255) (by omega) (by omega), tmod_pos ((n - 1).tmod 255 + 255) (by omega), wrap_i (((n - 1).tmod 255 + 255) % 255 + 1) (by omega) (by omega), h5]
theorem two_bytes (m s0 s1 x : Int) (hx : 1 ≤ x ∧ x ≤ 255) :
   (s1 + (m % 255) * x + ((m % 255 + 254) % 255) * (255 - (s0 + x) % 255)) % 255 = 0 ↔ x = ((m - 1) % 255 * s0 - s1 - 1) % 255 + 1 := by
 have t1 : (m % 255 + 254) % 255 = (m - 1) % 255 := by omega
 rw [t1]
 obtain ⟨j, hj⟩ : ∃ j, m % 255 = (m - 1) % 255 + 1 - 255 * j := ⟨((m - 1) % 255 + 1 - m % 255) / 255, by omega⟩
 obtain ⟨q, hq⟩ : ∃ q, (s0 + x) % 255 = s0 + x - 255 * q := ⟨(s0 + x) / 255, by omega⟩
 rw [hj, hq]
 generalize (m - 1) % 255 = t
 have e : s1 + (t + 1 - 255 * j) * x + t * (255 - (s0 + x - 255 * q)) = s1 + x - t * s0 + 255 * (t + t * q - j * x) := by
   simp only [Int.mul_add, Int.add_mul, Int.mul_sub, Int.sub_mul, Int.one_mul]
   rw [Int.mul_left_comm t 255 q, Int.mul_assoc 255 j x]
   omega
 rw [e]
 generalize t + t * q - j * x = k
 generalize t * s0 = p
 omega
end Go.Proofs.Ythonenmafbpbkaa

namespace Go.Proofs.Ythonenmafbpbkaa
open Go Go.Am
set_option linter.unusedSimpArgs false
theorem fletch_plain {b : List Int} (hb : isB b) (hn : b.length < 1099511627776) (at_ : Nat) (hat : at_ + 1 < b.length) (s0 s1 X : Int) (hs0 : s0 = (sumsL b.length at_ b 0 (0, 0)).1) (hs1 : s1 = (sumsL b.length at_ b 0 (0, 0)).2)
   (hX : X = (((b.length : Int) - at_ - 1) % 255 * s0 - s1 - 1) % 255 + 1) : fletch b at_ = (X * 256 + (255 - (s0 + X) % 255), true) := by
 obtain ⟨_, b0, b1⟩ := sums_with hb hn at_ hat
 rw [← hs0] at b0
 rw [← hs1] at b1
 have w1 : IntKind.i64.wrap ((b.length : Int) - 1) = b.length - 1 := wrap_i _ (by omega) (by omega)
 unfold fletch
 rw [w1, if_neg (by omega)]
 simp only
 rw [← hs0, ← hs1]
 have w2 : IntKind.i64.wrap ((b.length : Int) - at_) = b.length - at_ := wrap_i _ (by omega) (by omega)
 rw [w2, wrap_i ((b.length : Int) - at_ - 1) (by omega) (by omega), tmod_pos ((b.length : Int) - at_ - 1) (by omega)]
 have t0 : 0 ≤ ((b.length : Int) - at_ - 1) % 255 := by omega
 have t1 : ((b.length : Int) - at_ - 1) % 255 < 255 := by omega
 generalize ((b.length : Int) - at_ - 1) % 255 = t at t0 t1 hX ⊢
 have p0 : 0 ≤ t * s0 := Int.mul_nonneg t0 b0.1
 have p1 : t * s0 ≤ 255 * 255 := Int.mul_le_mul (by omega) (by omega) b0.1 (by omega)
 generalize t * s0 = p at p0 p1 hX ⊢
 rw [wrap_i p (by omega) (by omega), wrap_i (p - s1) (by omega) (by omega), resI_plain (p - s1) (by omega) (by omega), ← hX]
 have hx : 1 ≤ X ∧ X ≤ 255 := by omega
 rw [wrap_i (0 - s0) (by omega) (by omega), wrap_i (0 - s0 - X) (by omega) (by omega), resI_plain (0 - s0 - X) (by omega) (by omega), wrap_i (256 * X) (by omega) (by omega), wrap_i _ (by omega) (by omega)]
 congr 1
 omega
set_option maxHeartbeats 4000000 in
set_option maxRecDepth 10000 in
theorem c86 (b : List Int) (hb : isB b) (hlen : b.length < 1099511627776) (at_ : Nat) (hat : at_ + 1 < b.length) : CFun Try.prog 102 [encBs b, .int .i64 at_] [] (.tup [.int .i64 (fletch b at_).1, .bool (fletch b at_).2]) [] := by
 refine CFun.intro (tr := []) (fz := []) (n := 58) (rs := [.tmp 4, .tmp 5]) Try.func102 rfl (by kernel_rfl) rfl rfl mixed (by kernel_rfl) (by simp) (by simp) ?_
 have h100 := c100 b at_ hat hlen 0
 have hl : (withB b at_ 0).length = b.length := by simp [withB]
 have h99 := c99 (withB b at_ 0) b.length (by omega) (by omega)
 obtain ⟨e1, b0, b1⟩ := sums_with hb hlen at_ hat
 rw [e1] at h99
 have hf := fletch_plain hb hlen at_ hat _ _ _ rfl rfl rfl
 generalize hs0 : (sumsL b.length at_ b 0 (0, 0)).1 = s0 at h99 b0 hf
 generalize hs1 : (sumsL b.length at_ b 0 (0, 0)).2 = s1 at h99 b1 hf
 rw [hf]
 clear hf e1 hs0 hs1
 obtain ⟨n, hn⟩ : ∃ n, b.length = n := ⟨_, rfl⟩
 rw [hn] at hlen hat ⊢
 generalize withB b at_ 0 = c at h99 h100 hl
 have hc : (b.length : Int) = n := by omega
 have w1 : IntKind.i64.wrap ((n : Int) - 1) = n - 1 := wrap_i _ (by omega) (by omega)
 have w2 : IntKind.i64.wrap ((n : Int) - at_) = n - at_ := wrap_i _ (by omega) (by omega)
 have a1 : ¬ ((at_ : Int) < 0) := by omega
 have a2 : ¬ ((n : Int) - 1 ≤ at_) := by omega
 have a3 : ((n : Int) - at_).tmod 255 = ((n : Int) - at_) % 255 := tmod_pos _ (by omega)
 have hXr : 1 ≤ (((n : Int) - at_ - 1) % 255 * s0 - s1 - 1) % 255 + 1 ∧ (((n : Int) - at_ - 1) % 255 * s0 - s1 - 1) % 255 + 1 ≤ 255 := by omega
 have h2 := fun x => two_bytes ((n : Int) - at_) s0 s1 x
 generalize (((n : Int) - at_ - 1) % 255 * s0 - s1 - 1) % 255 + 1 = X at hXr h2 ⊢
 have hm0 : 0 ≤ ((n : Int) - at_) % 255 := by omega
 have hm1 : ((n : Int) - at_) % 255 < 255 := by omega
 simp [hc, w1, a1, a2]
 refine ⟨_, _, .inl h100, trivial, ?_⟩
 simp
 refine ⟨_, _, .inl h99, trivial, ?_⟩
 simp [hc, w2, a3]
 generalize ((n : Int) - at_) % 255 = m at hm0 hm1 h2
 clear h99 h100 a1 a2 a3 w1 w2 hl
 refine LoopK.intro (tr := []) mixed (by kernel_rfl) (fun x : Int => [(6, .int .i64 s0), (7, .int .i64 s1), (8, .int .i64 m), (9, .int .i64 x)]) (fun q => [])
   (fun x => 1 ≤ x ∧ x ≤ X) (fun x => (256 - x).toNat) 1 ?_ ?_ ?_
 · omega
 · simp
 · rintro x ⟨x1, x2⟩
   have v1 : IntKind.i64.wrap (s0 + x) = s0 + x := wrap_i _ (by omega) (by omega)
   have v2 : (s0 + x).tmod 255 = (s0 + x) % 255 := tmod_pos _ (by omega)
   have q0 : 0 ≤ (s0 + x) % 255 ∧ (s0 + x) % 255 < 255 := step_lt _
   have v3 : IntKind.i64.wrap (255 - (s0 + x) % 255) = 255 - (s0 + x) % 255 := wrap_i _ (by omega) (by omega)
   have p1 : 0 ≤ m * x := Int.mul_nonneg hm0 (by omega)
   have p2 : m * x ≤ 255 * 255 := Int.mul_le_mul (by omega) (by omega) (by omega) (by omega)
   have v4 : IntKind.i64.wrap (m * x) = m * x := wrap_i _ (by omega) (by omega)
   have v5 : IntKind.i64.wrap (s1 + m * x) = s1 + m * x := wrap_i _ (by omega) (by omega)
   have v6 : IntKind.i64.wrap (m + 254) = m + 254 := wrap_i _ (by omega) (by omega)
   have v7 : (m + 254).tmod 255 = (m + 254) % 255 := tmod_pos _ (by omega)
   have q1 : 0 ≤ (m + 254) % 255 ∧ (m + 254) % 255 < 255 := step_lt _
   have p3 : 0 ≤ (m + 254) % 255 * (255 - (s0 + x) % 255) := Int.mul_nonneg q1.1 (by omega)
   have p4 : (m + 254) % 255 * (255 - (s0 + x) % 255) ≤ 255 * 255 := Int.mul_le_mul (by omega) (by omega) (by omega) (by omega)
   have v8 : IntKind.i64.wrap ((m + 254) % 255 * (255 - (s0 + x) % 255)) = (m + 254) % 255 * (255 - (s0 + x) % 255) := wrap_i _ (by omega) (by omega)
   have v9 : IntKind.i64.wrap (s1 + m * x + (m + 254) % 255 * (255 - (s0 + x) % 255)) = s1 + m * x + (m + 254) % 255 * (255 - (s0 + x) % 255) := wrap_i _ (by omega) (by omega)
   have v10 : (s1 + m * x + (m + 254) % 255 * (255 - (s0 + x) % 255)).tmod 255 = (s1 + m * x + (m + 254) % 255 * (255 - (s0 + x) % 255)) % 255 := tmod_pos _ (by omega)
   have v11 : IntKind.i64.wrap (x + 1) = x + 1 := wrap_i _ (by omega) (by omega)
   have v12 : IntKind.i64.wrap (x * 256) = x * 256 := wrap_i _ (by omega) (by omega)
   have v13 : IntKind.i64.wrap (x * 256 + (255 - (s0 + x) % 255)) = x * 256 + (255 - (s0 + x) % 255) := wrap_i _ (by omega) (by omega)
   have hle : x ≤ 255 := by omega
   have hk := h2 x (by omega)
   by_cases hx : x = X
   · have hz := hk.2 hx
     simp [hle, v1, v2, v3, v4, v5, v6, v7, v8, v9, v10, v12, v13, hz]
     rw [hx]
   · have hz : ((s1 + m * x + (m + 254) % 255 * (255 - (s0 + x) % 255)) % 255 == 0) = false := by
       rw [beq_eq_false_iff_ne]; exact fun e => hx (hk.1 e)
     simp [hle, v1, v2, v3, v4, v5, v6, v7, v8, v9, v10, hz]
     exact ⟨by rw [v11]; omega, by rw [v11]; omega⟩
end Go.Proofs.Ythonenmafbpbkaa

namespace Go.Proofs.Ythonenmafbpbkaa
open Go Go.Am
set_option linter.unusedSimpArgs false
@[simp] theorem tstr_39_9 : tstr Try.prog 147 9 = true := by kernel_rfl
theorem bt_in (x : Int) (i : Nat) : 0 ≤ bt x i ∧ bt x i ≤ 255 := by
 have : bt x i = (x.fdiv (2 ^ (8 * i))) % 256 := rfl
 omega
theorem isB_numB (n : Nat) (x : Int) : isB (numB n x) := by
 induction n with
 | zero => intro y hy; simp [numB] at hy
 | succ n ih =>
   intro y hy
   simp only [numB, List.mem_cons] at hy
   rcases hy with rfl | hy
   · exact bt_in x n
   · exact ih y hy
theorem isB_app {a b : List Int} (ha : isB a) (hb : isB b) : isB (a ++ b) := by
 intro y hy
 rcases List.mem_append.1 hy with h | h
 · exact ha y h
 · exact hb y h
theorem isB_flat {α : Type} (f : α → List Int) (l : List α) (h : ∀ x, isB (f x)) : isB ((l.map f).flatten) := by
 intro y hy
 obtain ⟨z, hz, hy⟩ := List.mem_flatten.1 hy
 obtain ⟨x, _, rfl⟩ := List.mem_map.1 hz
 exact h x y hy
theorem isB_nil : isB [] := by intro x hx; simp at hx
theorem isB_hdrB (h : Hdr) : isB (hdrB h) := by
 unfold hdrB
 repeat' apply isB_app
 all_goals exact isB_numB _ _
theorem isB_bodyB (l : Lsa) : isB (bodyB l) := by
 unfold bodyB
 repeat' split
 · exact isB_app (isB_app (isB_numB _ _) (isB_numB _ _)) (isB_flat _ _ fun x => by unfold linkB; exact isB_app (isB_app (isB_app (isB_numB _ _) (isB_numB _ _)) (isB_numB _ _)) (isB_numB _ _))
 · exact isB_app (isB_numB _ _) (isB_flat _ _ fun x => isB_numB _ _)
 · exact isB_numB _ _
 · exact isB_app (isB_app (isB_app (isB_numB _ _) (isB_numB _ _)) (isB_numB _ _)) (isB_numB _ _)
 · exact isB_nil
theorem isB_bytesA (l : Lsa) : isB (bytesA l) := isB_app (isB_app (isB_hdrB _) (isB_numB _ _)) (isB_bodyB _)
theorem isB_drop {b : List Int} (h : isB b) (n : Nat) : isB (b.drop n) := fun x hx => h x (List.mem_of_mem_drop hx)
set_option maxHeartbeats 1000000 in
set_option maxRecDepth 10000 in
theorem c57 (l : Lsa) (hl : l.Links.length ≤ 64) (ha : l.Att.length ≤ 64) : CFun Try.prog 69 [encA l] [] (.int .i64 (sumA l)) [] := by
 refine CFun.intro (tr := []) (fz := []) (n := 13) (rs := [.tmp 2]) Try.func69 rfl (by kernel_rfl) rfl rfl mixed (by kernel_rfl) (by simp) (by simp) ?_
 have h24 := (c24 l hl ha).up' [cellsA l] rfl rfl
 have hlen := bytesA_len l hl ha
 have hlo : 20 ≤ (bytesA l).length := by simp only [bytesA, List.length_append, hdrB_len, numB_len]; omega
 have h86 := (c86 ((bytesA l).drop 2) (isB_drop (isB_bytesA l) 2) (by simp; omega) 14 (by simp; omega)).up' [cellsA l] rfl rfl
 rw [sumA]
 generalize bytesA l = b at h24 h86 hlen hlo ⊢
 have z1 : (2 : Int) ≤ b.length := by omega
 have z2 : 2 ≤ b.length := by omega
 have z3 : ((14 : Nat) : Int) = 14 := rfl
 rw [z3] at h86
 generalize fletch (b.drop 2) 14 = r at h86 ⊢
 simp
 refine ⟨_, _, .inl h24, trivial, ?_⟩
 have ht : (b.map enc8).take b.length = b.map enc8 := List.take_of_length_le (by simp)
 simp [z1, z2, ht]
 refine ⟨_, _, .inl (by simpa [cargs] using h86), by simp, ?_⟩
 simp
set_option maxHeartbeats 1000000 in
set_option maxRecDepth 10000 in
theorem c22 (l : Lsa) (hl : l.Links.length ≤ 64) (ha : l.Att.length ≤ 64) : CFun Try.prog 93 [encA l] [] (.bool (l.H.Sum == sumA l)) [] := by
 refine CFun.intro (tr := []) (fz := []) (n := 9) (rs := [.tmp 2]) Try.func93 rfl (by kernel_rfl) rfl rfl mixed (by kernel_rfl) (by simp) (by simp) ?_
 have h57 := (c57 l hl ha).up' [cellsA l] rfl rfl
 simp
 refine ⟨_, _, .inl h57, by simp, ?_⟩
 simp
end Go.Proofs.Ythonenmafbpbkaa

namespace Go.Proofs.Ythonenmafbpbkaa
open Go Go.Am
set_option linter.unusedSimpArgs false
end Go.Proofs.Ythonenmafbpbkaa
