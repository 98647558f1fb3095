import Derived.Test.YtmgkemffbmfmpaaDS4
set_option linter.unusedSimpArgs false
set_option linter.unusedVariables false
namespace Go.Proofs.Ytmgkemffbmfmpaa
open Go Go.Am

theorem encBs_noid (b : List Int) : [encBs b].all noid0 = true := rfl
set_option maxHeartbeats 1000000 in
set_option maxRecDepth 10000 in
theorem c92 (b : List Int) (hb : b.length < 1099511627000) (n : Nat) (hn : n ≤ 8) (x : Int) : CFun Try.prog 169 [.int .i64 n, .int .u64 x, .ptr 0 0] [[encBs b]] (.tup []) [[encBs (b ++ numB n x)]] := by
  refine CFun.intro (tr := []) (fz := []) (n := 9) (rs := []) Try.func169 rfl (by kernel_rfl) rfl rfl mixed (by kernel_rfl) (by simp) (by simp) ?_
  simp
  refine ⟨_, _, .inl (by simpa [cargs] using (c88 b hb n hn x).up' [[encBs b]] rfl rfl), by simp, ?_⟩
  simp
set_option maxHeartbeats 1000000 in
set_option maxRecDepth 10000 in
theorem c92z (k : Nat) (n : Nat) (hn : n ≤ 8) (x : Int) : CFun Try.prog 169 [.int .i64 n, .int .u64 x, .ptr 0 0] [[.sl k [] .full]] (.tup []) [[encBs (numB n x)]] := by
  refine CFun.intro (tr := []) (fz := []) (n := 9) (rs := []) Try.func169 rfl (by kernel_rfl) rfl rfl mixed (by kernel_rfl) (by simp) (by simp) ?_
  simp
  refine ⟨_, _, .inl (by simpa [cargs] using ((c88 [] (by simp) n hn x).wk [.sl k [] .full, .int .i64 n, .int .u64 x] (by simp) ⟨⟨rfl, .inr ⟨.inr rfl, .inl rfl⟩⟩, rfl, rfl, trivial⟩).up' [[.sl k [] .full]] rfl rfl), by simp, ?_⟩
  simp
theorem put92 {H : List (List AVal)} {id : Nat} {b : List Int} (n : Nat) (x : Int) (hid : H[id]? = some [encBs b]) (hn : n ≤ 8) (hb : b.length < 1099511627000) : CFun Try.prog 169 [.int .i64 n, .int .u64 x, .ptr id 0] H (.tup []) (H.set id [encBs (b ++ numB n x)]) :=
  (c92 b hb n hn x).at hid rfl rfl rfl rfl
theorem put92z {H : List (List AVal)} {id k : Nat} (n : Nat) (x : Int) (hid : H[id]? = some [.sl k [] .full]) (hn : n ≤ 8) : CFun Try.prog 169 [.int .i64 n, .int .u64 x, .ptr id 0] H (.tup []) (H.set id [encBs (numB n x)]) :=
  (c92z k n hn x).at hid rfl rfl rfl rfl

abbrev U (x : Int) : Int := IntKind.u64.wrap x
def hdrB (h : Hdr) : List Int := numB 2 (U h.Age) ++ numB 1 (U h.Ty) ++ numB 1 (U h.Len) ++ numB 4 (U h.ID) ++ numB 4 (U h.Router) ++ numB 4 (U h.Seq) ++ numB 2 (U h.Sum)
set_option maxHeartbeats 2000000 in
set_option maxRecDepth 10000 in
theorem c69 (h : Hdr) : CFun Try.prog 152 [encH h] [] (encBs (hdrB h)) [] := by
  refine CFun.intro (tr := []) (fz := []) (n := 42) (rs := [.tmp 2]) Try.func152 rfl (by kernel_rfl) rfl rfl mixed (by kernel_rfl) (by simp) (by simp) ?_
  simp
  refine ⟨_, _, .inl (put92z 2 (U h.Age) (by rfl) (by omega)), by simp, ?_⟩
  simp [-List.map_append]
  refine ⟨_, _, .inl (put92 1 (U h.Ty) (by rfl) (by omega) (by simp [numB_len])), by simp, ?_⟩
  simp [-List.map_append]
  refine ⟨_, _, .inl (put92 1 (U h.Len) (by rfl) (by omega) (by simp [numB_len])), by simp, ?_⟩
  simp [-List.map_append]
  refine ⟨_, _, .inl (put92 4 (U h.ID) (by rfl) (by omega) (by simp [numB_len])), by simp, ?_⟩
  simp [-List.map_append]
  refine ⟨_, _, .inl (put92 4 (U h.Router) (by rfl) (by omega) (by simp [numB_len])), by simp, ?_⟩
  simp [-List.map_append]
  refine ⟨_, _, .inl (put92 4 (U h.Seq) (by rfl) (by omega) (by simp [numB_len])), by simp, ?_⟩
  simp [-List.map_append]
  refine ⟨_, _, .inl (put92 2 (U h.Sum) (by rfl) (by omega) (by simp [numB_len])), by simp, ?_⟩
  simp [-List.map_append, hdrB]
theorem hdrB_len (h : Hdr) : (hdrB h).length = 18 := by simp [hdrB, numB_len]
end Go.Proofs.Ytmgkemffbmfmpaa

namespace Go.Proofs.Ytmgkemffbmfmpaa
open Go Go.Am

structure Lsa where
  H : Hdr
  Border : Bool
  Boundary : Bool
  Links : List Lnk
  Att : List Int
  Cost : Int
  Second : Bool
  Fwd : Int
  Tag : Int
  deriving DecidableEq
@[simp] def cellsA (l : Lsa) : List AVal := [.int .i64 l.H.Ty, .int .u32 l.H.ID, .int .i64 l.H.Len, .int .u32 l.H.Router, .int .i64 l.H.Seq, .int .i64 l.H.Age, .int .i64 l.H.Sum,
  .bool l.Border, .bool l.Boundary, .sl 4 (l.Links.map encK) .sh, .sl 1 (l.Att.map enc32) .sh, .int .i64 l.Cost, .bool l.Second, .int .u32 l.Fwd, .int .i64 l.Tag]
@[simp] def encA (l : Lsa) : AVal := .agg (cellsA l)

def flagI (b : Bool) (n : Int) : Int := if b = true then n else 0
theorem c102 (b : Bool) (n : Int) : CFun Try.prog 183 [.bool b, .int .u64 n] [] (.int .u64 (flagI b n)) [] := by
  refine CFun.intro (tr := []) (fz := []) (n := 7) (rs := [.tmp 4]) Try.func183 rfl (by kernel_rfl) rfl rfl mixed (by kernel_rfl) (by simp) (by simp) ?_
  cases b <;> simp [flagI]

theorem c101 (b : List Int) (hb : b.length < 1099511627000) (n : Nat) (hn : n ≤ 8) (x : Int) : CFun Try.prog 182 [.int .i64 n, .int .u64 x, .ptr 0 0] [[encBs b]] (.tup []) [[encBs (b ++ numB n x)]] := by
  refine CFun.intro (tr := []) (fz := []) (n := 9) (rs := []) Try.func182 rfl (by kernel_rfl) rfl rfl mixed (by kernel_rfl) (by simp) (by simp) ?_
  simp
  refine ⟨_, _, .inl (by simpa [cargs] using (c88 b hb n hn x).up' [[encBs b]] rfl rfl), by simp, ?_⟩
  simp
theorem c101z (k : Nat) (n : Nat) (hn : n ≤ 8) (x : Int) : CFun Try.prog 182 [.int .i64 n, .int .u64 x, .ptr 0 0] [[.sl k [] .full]] (.tup []) [[encBs (numB n x)]] := by
  refine CFun.intro (tr := []) (fz := []) (n := 9) (rs := []) Try.func182 rfl (by kernel_rfl) rfl rfl mixed (by kernel_rfl) (by simp) (by simp) ?_
  simp
  refine ⟨_, _, .inl (by simpa [cargs] using ((c88 [] (by simp) n hn x).wk [.sl k [] .full, .int .i64 n, .int .u64 x] (by simp) ⟨⟨rfl, .inr ⟨.inr rfl, .inl rfl⟩⟩, rfl, rfl, trivial⟩).up' [[.sl k [] .full]] rfl rfl), by simp, ?_⟩
  simp
theorem put101 {H : List (List AVal)} {id : Nat} {b : List Int} (n : Nat) (x : Int) (hid : H[id]? = some [encBs b]) (hn : n ≤ 8) (hb : b.length < 1099511627000) : CFun Try.prog 182 [.int .i64 n, .int .u64 x, .ptr id 0] H (.tup []) (H.set id [encBs (b ++ numB n x)]) :=
  (c101 b hb n hn x).at hid rfl rfl rfl rfl
theorem put101z {H : List (List AVal)} {id k : Nat} (n : Nat) (x : Int) (hid : H[id]? = some [.sl k [] .full]) (hn : n ≤ 8) : CFun Try.prog 182 [.int .i64 n, .int .u64 x, .ptr id 0] H (.tup []) (H.set id [encBs (numB n x)]) :=
  (c101z k n hn x).at hid rfl rfl rfl rfl

def orU (a b : Int) : Int := IntKind.u64.wrap (((a % 2 ^ IntKind.u64.bits).toNat ||| (b % 2 ^ IntKind.u64.bits).toNat : Nat) : Int)
def linkB (x : Lnk) : List Int := numB 1 (U x.Kind) ++ numB 4 (U x.ID) ++ numB 4 (U x.Data) ++ numB 2 (U x.Cost)
def attB (x : Int) : List Int := numB 4 (U x)
def bodyB (l : Lsa) : List Int :=
  if l.H.Ty = 1 then numB 1 (orU (flagI l.Border 1) (flagI l.Boundary 2)) ++ numB 1 (U l.Links.length) ++ (l.Links.map linkB).flatten
  else if l.H.Ty = 2 then numB 1 (U l.Att.length) ++ (l.Att.map attB).flatten
  else if l.H.Ty = 3 ∨ l.H.Ty = 4 then numB 4 (U l.Cost)
  else if l.H.Ty = 5 then numB 1 (flagI l.Second 1) ++ numB 4 (U l.Cost) ++ numB 4 (U l.Fwd) ++ numB 4 (U l.Tag)
  else []

theorem linkB_len (x : Lnk) : (linkB x).length = 11 := by simp [linkB, numB_len]
theorem attB_len (x : Int) : (attB x).length = 4 := by simp [attB, numB_len]
theorem take_map {α β : Type} (f : α → List β) (l : List α) (i : Nat) (x : α) (h : l[i]? = some x) : ((l.map f).take (i + 1)).flatten = ((l.map f).take i).flatten ++ f x :=
  flat_take _ _ _ (by simp [h])

set_option maxHeartbeats 4000000 in
set_option maxRecDepth 10000 in
theorem c87 (l : Lsa) (hl : l.Links.length ≤ 64) (ha : l.Att.length ≤ 64) : CFun Try.prog 166 [encA l] [] (encBs (bodyB l)) [] := by
  refine CFun.intro (tr := [200031, 200093]) (fz := []) (n := 110) (rs := [.tmp 2]) Try.func166 rfl (by kernel_rfl) rfl rfl mixed (by kernel_rfl) (by simp) (by simp) ?_
  have h102 : ∀ b n H, CFun Try.prog 183 [.bool b, .int .u64 n] H (.int .u64 (flagI b n)) H := fun b n H => (c102 b n).up' H rfl rfl
  by_cases t3 : l.H.Ty = 3
  · simp [t3]
    refine ⟨_, _, .inl (put101z 4 (U l.Cost) (by rfl) (by omega)), by simp, ?_⟩
    simp [bodyB, t3]
  by_cases t4 : l.H.Ty = 4
  · simp [t4]
    refine ⟨_, _, .inl (put101z 4 (U l.Cost) (by rfl) (by omega)), by simp, ?_⟩
    simp [bodyB, t4]
  by_cases t5 : l.H.Ty = 5
  · simp [t5]
    refine ⟨_, _, .inl (h102 _ _ _), by simp, ?_⟩
    simp
    refine ⟨_, _, .inl (put101z 1 (flagI l.Second 1) (by rfl) (by omega)), by simp, ?_⟩
    simp
    refine ⟨_, _, .inl (put101 4 (U l.Cost) (by rfl) (by omega) (by simp [numB_len])), by simp, ?_⟩
    simp [-List.map_append]
    refine ⟨_, _, .inl (put101 4 (U l.Fwd) (by rfl) (by omega) (by simp [numB_len])), by simp, ?_⟩
    simp [-List.map_append]
    refine ⟨_, _, .inl (put101 4 (U l.Tag) (by rfl) (by omega) (by simp [numB_len])), by simp, ?_⟩
    simp [-List.map_append, bodyB, t5]
  by_cases t1 : l.H.Ty = 1
  · have h1 : bodyB l = numB 1 (orU (flagI l.Border 1) (flagI l.Boundary 2)) ++ numB 1 (U l.Links.length) ++ (l.Links.map linkB).flatten := by simp [bodyB, t1]
    rw [h1]
    obtain ⟨n, hn⟩ : ∃ n, l.Links.length = n := ⟨_, rfl⟩
    have hc : (l.Links.length : Int) = n := by omega
    rw [hc]
    simp [t1, hc, -List.map_append, -List.append_assoc]
    refine ⟨_, _, .inl (h102 _ _ _), by simp, ?_⟩
    simp [-List.map_append, -List.append_assoc]
    refine ⟨_, _, .inl (h102 _ _ _), by simp, ?_⟩
    simp [-List.map_append, -List.append_assoc]
    refine ⟨_, _, .inl (put101z 1 (orU (flagI l.Border 1) (flagI l.Boundary 2)) (by rfl) (by omega)), by simp, ?_⟩
    simp [hc, -List.map_append, -List.append_assoc]
    refine ⟨_, _, .inl (put101 1 (U n) (by rfl) (by omega) (by simp [numB_len])), by simp, ?_⟩
    have hp : (numB 1 (orU (flagI l.Border 1) (flagI l.Boundary 2)) ++ numB 1 (U n)).length = 2 := by simp [numB_len]
    generalize numB 1 (orU (flagI l.Border 1) (flagI l.Boundary 2)) ++ numB 1 (U n) = pre at hp ⊢
    simp [hc, -List.map_append, -List.append_assoc]
    refine LoopK.intro (tr := [200031, 200093]) mixed (by kernel_rfl) (fun q : Nat × List Int => [(3, .ptr 1 0), (4, .fn 182 [] [.ptr 1 0]), (39, .sl 4 (l.Links.map encK) .sh), (40, .int .i64 n), (41, .int .i64 q.1)]) (fun q => [cellsA l, [encBs q.2]])
      (fun q => q.1 ≤ n ∧ q.2.length ≤ 2 + 11 * q.1 ∧ q.2 = pre ++ ((l.Links.map linkB).take q.1).flatten) (fun q => n - q.1) (0, pre) ?_ ?_ ?_
    · exact ⟨by simp, by simp [hp], by simp⟩
    · simp [t1]
    · rintro ⟨i, out⟩ ⟨k1, k2, k3⟩
      simp only at k1 k2 k3
      by_cases hi : i < n
      · obtain ⟨x, hx, _⟩ := get_drop (l := l.Links) (i := i) (by omega)
        have w1 : IntKind.i64.wrap ((i : Int) + 1) = i + 1 := wrap_in (by omega)
        have hnx := take_map linkB l.Links i x hx
        have s0 : out.length < 1099511620000 := by omega
        clear hc hn
        simp [hi, hx]
        refine ⟨_, _, .inl (put101 1 (U x.Kind) (by rfl) (by omega) (by first | omega | (simp [numB_len]; omega))), by simp, ?_⟩
        simp [-List.map_append]
        refine ⟨_, _, .inl (put101 4 (U x.ID) (by rfl) (by omega) (by first | omega | (simp [numB_len]; omega))), by simp, ?_⟩
        simp [-List.map_append]
        refine ⟨_, _, .inl (put101 4 (U x.Data) (by rfl) (by omega) (by first | omega | (simp [numB_len]; omega))), by simp, ?_⟩
        simp [-List.map_append]
        refine ⟨_, _, .inl (put101 2 (U x.Cost) (by rfl) (by omega) (by first | omega | (simp [numB_len]; omega))), by simp, ?_⟩
        simp [-List.map_append, w1]
        refine ⟨i + 1, out ++ linkB x, ⟨by omega, by rw [List.length_append, linkB_len]; omega, ?_⟩, by omega, by simp, by simp [linkB]⟩
        show out ++ linkB x = pre ++ ((l.Links.map linkB).take (i + 1)).flatten
        rw [hnx, ← List.append_assoc, ← k3]
      · have hin : i = n := by omega
        subst hin
        have ht : (l.Links.map linkB).take i = l.Links.map linkB := List.take_of_length_le (by simp; omega)
        rw [ht] at k3
        simp [k3]
  by_cases t2 : l.H.Ty = 2
  · have h1 : bodyB l = numB 1 (U l.Att.length) ++ (l.Att.map attB).flatten := by simp [bodyB, t2]
    rw [h1]
    obtain ⟨n, hn⟩ : ∃ n, l.Att.length = n := ⟨_, rfl⟩
    have hc : (l.Att.length : Int) = n := by omega
    rw [hc]
    simp [t2, hc, -List.map_append]
    refine ⟨_, _, .inl (put101z 1 (U n) (by rfl) (by omega)), by simp, ?_⟩
    have hp : (numB 1 (U n)).length = 1 := by simp [numB_len]
    generalize numB 1 (U n) = pre at hp ⊢
    simp [hc, -List.map_append]
    refine LoopK.intro (tr := [200031, 200093]) mixed (by kernel_rfl) (fun q : Nat × List Int => [(3, .ptr 1 0), (4, .fn 182 [] [.ptr 1 0]), (73, .sl 1 (l.Att.map enc32) .sh), (74, .int .i64 n), (75, .int .i64 q.1)]) (fun q => [cellsA l, [encBs q.2]])
      (fun q => q.1 ≤ n ∧ q.2.length ≤ 1 + 4 * q.1 ∧ q.2 = pre ++ ((l.Att.map attB).take q.1).flatten) (fun q => n - q.1) (0, pre) ?_ ?_ ?_
    · exact ⟨by simp, by simp [hp], by simp⟩
    · simp [t2]
    · rintro ⟨i, out⟩ ⟨k1, k2, k3⟩
      simp only at k1 k2 k3
      by_cases hi : i < n
      · obtain ⟨x, hx, _⟩ := get_drop (l := l.Att) (i := i) (by omega)
        have w1 : IntKind.i64.wrap ((i : Int) + 1) = i + 1 := wrap_in (by omega)
        have hnx := take_map attB l.Att i x hx
        have s0 : out.length < 1099511620000 := by omega
        clear hc hn
        simp [hi, hx]
        refine ⟨_, _, .inl (put101 4 (U x) (by rfl) (by omega) (by first | omega | (simp [numB_len]; omega))), by simp, ?_⟩
        simp [-List.map_append, w1]
        refine ⟨i + 1, out ++ attB x, ⟨by omega, by rw [List.length_append, attB_len]; omega, ?_⟩, by omega, by simp, by simp [attB]⟩
        show out ++ attB x = pre ++ ((l.Att.map attB).take (i + 1)).flatten
        rw [hnx, ← List.append_assoc, ← k3]
      · have hin : i = n := by omega
        subst hin
        have ht : (l.Att.map attB).take i = l.Att.map attB := List.take_of_length_le (by simp; omega)
        rw [ht] at k3
        simp [k3]
  · simp [t1, t2, t3, t4, t5, bodyB]
end Go.Proofs.Ytmgkemffbmfmpaa

namespace Go.Proofs.Ytmgkemffbmfmpaa
open Go Go.Am

theorem bodyB_len (l : Lsa) (hl : l.Links.length ≤ 64) (ha : l.Att.length ≤ 64) : (bodyB l).length ≤ 706 := by
  have h1 : ((l.Links.map linkB).flatten).length = l.Links.length * 11 := by
    induction l.Links with
    | nil => rfl
    | cons x xs ih => simp only [List.map_cons, List.flatten_cons, List.length_append, linkB_len, List.length_cons, ih]; omega
  have h2 : ((l.Att.map attB).flatten).length = l.Att.length * 4 := by
    induction l.Att with
    | nil => rfl
    | cons x xs ih => simp only [List.map_cons, List.flatten_cons, List.length_append, attB_len, List.length_cons, ih]; omega
  unfold bodyB
  split
  · simp only [List.length_append, numB_len, h1]; omega
  · split
    · simp only [List.length_append, numB_len, h2]; omega
    · split
      · simp [numB_len]
      · split <;> simp [numB_len]
def bytesA (l : Lsa) : List Int := hdrB l.H ++ numB 2 (U (bodyB l).length) ++ bodyB l
theorem bytesA_len (l : Lsa) (hl : l.Links.length ≤ 64) (ha : l.Att.length ≤ 64) : (bytesA l).length ≤ 726 := by
  have := bodyB_len l hl ha
  simp only [bytesA, List.length_append, hdrB_len, numB_len]; omega

set_option maxHeartbeats 1000000 in
set_option maxRecDepth 10000 in
theorem c59 (l : Lsa) (hl : l.Links.length ≤ 64) (ha : l.Att.length ≤ 64) : CFun Try.prog 150 [encA l] [] (encBs (bytesA l)) [] := by
  refine CFun.intro (tr := []) (fz := []) (n := 15) (rs := [.tmp 2]) Try.func150 rfl (by kernel_rfl) rfl rfl mixed (by kernel_rfl) (by simp) (by simp) ?_
  have h87 := (c87 l hl ha).up' [cellsA l] rfl rfl
  have h69 := (c69 l.H).up' [cellsA l] rfl rfl
  have hb := bodyB_len l hl ha
  have h88 := (c88 (hdrB l.H) (by rw [hdrB_len]; omega) 2 (by omega) (U (bodyB l).length)).up' [cellsA l] rfl rfl
  have s1 : (hdrB l.H).length + 2 + (bodyB l).length ≤ 140737488355328 := by rw [hdrB_len]; omega
  have hbc : ((bodyB l).length : Int) = ((bodyB l).length : Nat) := rfl
  simp
  refine ⟨_, _, .inl h87, trivial, ?_⟩
  simp
  refine ⟨_, _, .inl h69, trivial, ?_⟩
  simp
  refine ⟨_, _, .inl (by simpa [cargs] using h88), by simp, ?_⟩
  simp [numB_len, s1, bytesA]

def resI (n : Int) : Int := IntKind.i64.wrap ((IntKind.i64.wrap ((IntKind.i64.wrap (n - 1)).tmod 255 + 255)).tmod 255 + 1)
theorem c98 (n : Int) : CFun Try.prog 181 [.int .i64 n] [] (.int .i64 (resI n)) [] := by
  refine CFun.intro (tr := []) (fz := []) (n := 9) (rs := [.tmp 2]) Try.func181 rfl (by kernel_rfl) rfl rfl mixed (by kernel_rfl) (by simp) (by simp) ?_
  simp [resI]

def sumStep (n : Int) (skip : Int) (i : Nat) (s : Int × Int) (b : Int) : Int × Int :=
  if 0 ≤ skip ∧ ((i : Int) = skip ∨ (i : Int) = IntKind.i64.wrap (skip + 1)) then s else
  ((IntKind.i64.wrap (s.1 + IntKind.i64.wrap b)).tmod 255, (IntKind.i64.wrap (s.2 + IntKind.i64.wrap ((IntKind.i64.wrap (n - i)).tmod 255 * IntKind.i64.wrap b))).tmod 255)
def sumsL (n : Int) (skip : Int) : List Int → Nat → Int × Int → Int × Int
  | [], _, s => s
  | b :: bs, i, s => sumsL n skip bs (i + 1) (sumStep n skip i s b)

set_option maxHeartbeats 2000000 in
set_option maxRecDepth 10000 in
theorem c97 (b : List Int) (n : Nat) (hn : (b.length : Int) = n) (hlen : n < 1099511627776) (skip : Int) : CFun Try.prog 180 [encBs b, .int .i64 skip] [] (.agg [.int .i64 (sumsL n skip b 0 (0, 0)).1, .int .i64 (sumsL n skip b 0 (0, 0)).2]) [] := by
  refine CFun.intro (tr := []) (fz := []) (n := 53) (rs := [.cell 4 183]) Try.func180 rfl (by kernel_rfl) rfl rfl mixed (by kernel_rfl) (by simp) (by simp) ?_
  simp [hn]
  refine LoopK.intro (tr := []) mixed (by kernel_rfl) (fun q : Nat × Int × Int => [(0, encBs b), (1, .int .i64 skip), (4, .ptr 0 0), (5, .ptr 1 0), (8, .int .i64 n), (9, .int .i64 q.1)]) (fun q => [[.int .i64 0, .int .i64 0], [.int .i64 q.2.1, .int .i64 q.2.2]])
    (fun q => q.1 ≤ n ∧ sumsL n skip b 0 (0, 0) = sumsL n skip (b.drop q.1) q.1 q.2) (fun q => n - q.1) (0, 0, 0) ?_ ?_ ?_
  · simp
  · simp
  · rintro ⟨i, s0, s1⟩ ⟨h1, h2⟩
    simp only at h1 h2
    by_cases hi : i < n
    · obtain ⟨x, hx, hd⟩ := get_drop (l := b) (i := i) (by omega)
      rw [hd] at h2
      have w1 : IntKind.i64.wrap ((i : Int) + 1) = i + 1 := wrap_in (by omega)
      simp only [sumsL, sumStep] at h2
      clear hd
      by_cases k0 : 0 ≤ skip
      · by_cases k1 : (i : Int) = skip
        · subst k1
          simp [k0] at h2
          simp [hi, w1]
          exact ⟨i + 1, s0, s1, ⟨by omega, h2⟩, by omega, by simp, rfl, rfl⟩
        · by_cases k2 : (i : Int) = IntKind.i64.wrap (skip + 1)
          · rw [if_pos ⟨k0, .inr k2⟩] at h2
            have b1 : ((i : Int) == skip) = false := by simpa using k1
            have b2 : ((i : Int) == IntKind.i64.wrap (skip + 1)) = true := by simpa using k2
            simp [hi, k0, b1, b2, w1]
            exact ⟨i + 1, s0, s1, ⟨by omega, h2⟩, by omega, by simp, rfl, rfl⟩
          · rw [if_neg (by rintro ⟨_, h | h⟩ <;> contradiction)] at h2
            have b1 : ((i : Int) == skip) = false := by simpa using k1
            have b2 : ((i : Int) == IntKind.i64.wrap (skip + 1)) = false := by simpa using k2
            simp [hi, k0, b1, b2, hx, hn, w1]
            exact ⟨i + 1, _, _, ⟨by omega, h2⟩, by omega, by simp, rfl, rfl⟩
      · rw [if_neg (by omega)] at h2
        simp [hi, k0, hx, hn, w1]
        exact ⟨i + 1, _, _, ⟨by omega, h2⟩, by omega, by simp, rfl, rfl⟩
    · have e : b.drop i = [] := List.drop_of_length_le (by omega)
      rw [e] at h2
      simp [sumsL] at h2
      simp [hi, h2]

/-- The Fletcher checksum, its place given. -/
def fletch (b : List Int) (at_ : Int) : Int × Bool :=
  if at_ < 0 ∨ IntKind.i64.wrap ((b.length : Int) - 1) ≤ at_ then (0, false) else
  let s := sumsL b.length at_ b 0 (0, 0)
  let x := resI (IntKind.i64.wrap (IntKind.i64.wrap ((IntKind.i64.wrap (IntKind.i64.wrap ((b.length : Int) - at_) - 1)).tmod 255 * s.1) - s.2))
  let y := resI (IntKind.i64.wrap (IntKind.i64.wrap (0 - s.1) - x))
  (IntKind.i64.wrap (IntKind.i64.wrap (256 * x) + y), true)

set_option maxHeartbeats 2000000 in
set_option maxRecDepth 10000 in
theorem c85 (b : List Int) (hlen : b.length < 1099511627776) (at_ : Int) : CFun Try.prog 165 [encBs b, .int .i64 at_] [] (.tup [.int .i64 (fletch b at_).1, .bool (fletch b at_).2]) [] := by
  refine CFun.intro (tr := []) (fz := []) (n := 44) (rs := [.tmp 4, .tmp 5]) Try.func165 rfl (by kernel_rfl) rfl rfl mixed (by kernel_rfl) (by simp) (by simp) ?_
  by_cases h1 : at_ < 0
  · simp [h1, fletch]
  by_cases h2 : IntKind.i64.wrap ((b.length : Int) - 1) ≤ at_
  · simp [h1, h2, fletch]
  have h97 := c97 b b.length rfl hlen at_
  have h98 : ∀ n H, CFun Try.prog 181 [.int .i64 n] H (.int .i64 (resI n)) H := fun n H => (c98 n).up' H rfl rfl
  simp only [fletch, if_neg (show ¬ (at_ < 0 ∨ IntKind.i64.wrap ((b.length : Int) - 1) ≤ at_) by rintro (h | h) <;> contradiction)]
  generalize sumsL b.length at_ b 0 (0, 0) = s at h97 ⊢
  simp [h1, h2]
  refine ⟨_, _, .inl h97, trivial, ?_⟩
  simp
  refine ⟨_, _, .inl (h98 _ _), by simp, ?_⟩
  simp
  refine ⟨_, _, .inl (h98 _ _), by simp, ?_⟩
  simp

def sumA (l : Lsa) : Int := (fletch ((bytesA l).drop 2) 14).1
set_option maxHeartbeats 1000000 in
set_option maxRecDepth 10000 in
theorem c54 (l : Lsa) (hl : l.Links.length ≤ 64) (ha : l.Att.length ≤ 64) : CFun Try.prog 149 [encA l] [] (.int .i64 (sumA l)) [] := by
  refine CFun.intro (tr := []) (fz := []) (n := 13) (rs := [.tmp 2]) Try.func149 rfl (by kernel_rfl) rfl rfl mixed (by kernel_rfl) (by simp) (by simp) ?_
  have h59 := (c59 l hl ha).up' [cellsA l] rfl rfl
  have hlen := bytesA_len l hl ha
  have hlo : 20 ≤ (bytesA l).length := by simp only [bytesA, List.length_append, hdrB_len, numB_len]; omega
  have h85 := (c85 ((bytesA l).drop 2) (by simp; omega) 14).up' [cellsA l] rfl rfl
  rw [sumA]
  generalize bytesA l = b at h59 h85 hlen hlo ⊢
  have z1 : (2 : Int) ≤ b.length := by omega
  have z2 : 2 ≤ b.length := by omega
  generalize fletch (b.drop 2) 14 = r at h85 ⊢
  simp
  refine ⟨_, _, .inl h59, trivial, ?_⟩
  have ht : (b.map enc8).take b.length = b.map enc8 := List.take_of_length_le (by simp)
  simp [z1, z2, ht]
  refine ⟨_, _, .inl (by simpa [cargs] using h85), by simp, ?_⟩
  simp
end Go.Proofs.Ytmgkemffbmfmpaa

namespace Go.Proofs.Ytmgkemffbmfmpaa
open Go Go.Am

set_option maxHeartbeats 1000000 in
set_option maxRecDepth 10000 in
theorem c55 (l : List Lnk) (hlen : l.length < 1099511627776) : CFun Try.prog 128 [.sl 4 (l.map encK) .sh] [] (.sl 4 (l.map encK) .sh) [] := by
  refine CFun.intro (tr := []) (fz := []) (n := 8) (rs := [.tmp 2]) Try.func128 rfl (by kernel_rfl) rfl rfl mixed (by kernel_rfl) (by simp) (by simp) ?_
  have s1 : l.length * 24 ≤ 140737488355328 := by omega
  have s2 : l.length ≤ 140737488355328 := by omega
  cases l with
  | nil => simp
  | cons x xs =>
    simp only [List.length_cons] at s1 s2
    simp [s1, s2]
set_option maxHeartbeats 1000000 in
set_option maxRecDepth 10000 in
theorem c56 (l : List Int) (hlen : l.length < 1099511627776) : CFun Try.prog 129 [.sl 1 (l.map enc32) .sh] [] (.sl 1 (l.map enc32) .sh) [] := by
  refine CFun.intro (tr := []) (fz := []) (n := 8) (rs := [.tmp 2]) Try.func129 rfl (by kernel_rfl) rfl rfl mixed (by kernel_rfl) (by simp) (by simp) ?_
  have s1 : l.length * 4 ≤ 140737488355328 := by omega
  have s2 : l.length ≤ 140737488355328 := by omega
  cases l with
  | nil => simp
  | cons x xs =>
    simp only [List.length_cons] at s1 s2
    simp [s1, s2]

set_option maxRecDepth 10000 in
theorem c78 (ts : List Int) (hts : ts.length < 1099511627776) (ty : Int) (rest : List AVal) (hr : LeCells 1 rest rest) : CFun Try.prog 175 [.sl 1 (ts.map encI) .sh, .ptr 0 0] [.int .i64 ty :: rest] (.bool (memL ts ty)) [.int .i64 ty :: rest] := by
  refine CFun.intro (tr := []) (fz := []) (n := 9) (rs := [.tmp 3]) Try.func175 rfl (by kernel_rfl) rfl rfl mixed (by kernel_rfl) (by simp) (by simp) ?_
  simp
  refine ⟨_, _, .inl ((c79 ts hts ty).up' _ rfl rfl), by simp, ?_⟩
  simpa using hr

def forB (l : Lsa) : Bool :=
  if memL [1] l.H.Ty = false ∧ (l.Border = true ∨ l.Boundary = true ∨ 0 < l.Links.length) then true else
  if memL [2] l.H.Ty = false ∧ 0 < l.Att.length then true else
  if memL [3, 4, 5] l.H.Ty = false ∧ l.Cost ≠ 0 then true else
  !memL [5] l.H.Ty && (l.Second || decide (l.Fwd ≠ 0) || decide (l.Tag ≠ 0))

set_option maxHeartbeats 2000000 in
set_option maxRecDepth 10000 in
theorem c41 (l : Lsa) : CFun Try.prog 161 [encA l] [] (.bool (forB l)) [] := by
  refine CFun.intro (tr := []) (fz := []) (n := 63) (rs := [.tmp 2]) Try.func161 rfl (by kernel_rfl) rfl rfl mixed (by kernel_rfl) (by simp) (by simp) ?_
  have h78 : ∀ (ts : List Int) (rest : List AVal), ts.length < 1099511627776 → LeCells 1 rest rest → CFun Try.prog 175 [.sl 1 (ts.map encI) .full, .ptr 0 0] [.int .i64 l.H.Ty :: rest] (.bool (memL ts l.H.Ty)) [.int .i64 l.H.Ty :: rest] :=
    fun ts rest hts hr => (c78 ts hts l.H.Ty rest hr).wk _ (by simp) ⟨whole, rfl, trivial⟩
  have h1 := fun rest => h78 [1] rest (by simp)
  have h2 := fun rest => h78 [2] rest (by simp)
  have h3 := fun rest => h78 [3, 4, 5] rest (by simp)
  have h5 := fun rest => h78 [5] rest (by simp)
  simp only [List.map_cons, List.map_nil, encI] at h1 h2 h3 h5
  rw [forB]
  generalize memL [1] l.H.Ty = m1 at h1 ⊢
  generalize memL [2] l.H.Ty = m2 at h2 ⊢
  generalize memL [3, 4, 5] l.H.Ty = m3 at h3 ⊢
  generalize memL [5] l.H.Ty = m5 at h5 ⊢
  have hL : (0 : Int) < l.Links.length ↔ 0 < l.Links.length := by omega
  have hT : (0 : Int) < l.Att.length ↔ 0 < l.Att.length := by omega
  simp
  refine ⟨_, _, .inl (h1 _ (by simp)), trivial, ?_⟩
  by_cases g1 : m1 = false ∧ (l.Border = true ∨ l.Boundary = true ∨ 0 < l.Links.length)
  · obtain ⟨rfl, g⟩ := g1
    by_cases b1 : l.Border = true
    · simp [b1]
    · by_cases b2 : l.Boundary = true
      · simp [b1, b2]
      · have b3 : 0 < l.Links.length := by rcases g with g | g | g <;> first | contradiction | exact g
        simp [b1, b2, hL, b3]
  have step : m1 = true ∨ (m1 = false ∧ l.Border = false ∧ l.Boundary = false ∧ ¬ 0 < l.Links.length) := by
    cases m1
    · right
      refine ⟨rfl, ?_, ?_, ?_⟩
      · cases h : l.Border <;> simp_all
      · cases h : l.Boundary <;> simp_all
      · intro h; exact g1 ⟨rfl, .inr (.inr h)⟩
    · exact .inl rfl
  rcases step with rfl | ⟨rfl, q1, q2, q3⟩
  all_goals first | simp [q1, q2, q3] | simp
  all_goals
    refine ⟨_, _, .inl (h2 _ (by simp)), trivial, ?_⟩
    by_cases g2 : m2 = false ∧ 0 < l.Att.length
    · simp [g2.1, g2.2]
    have s2 : m2 = true ∨ (m2 = false ∧ ¬ 0 < l.Att.length) := by
      cases m2
      · exact .inr ⟨rfl, fun h => g2 ⟨rfl, h⟩⟩
      · exact .inl rfl
    rcases s2 with rfl | ⟨rfl, r1⟩
    all_goals first | simp [r1] | simp
    all_goals
      refine ⟨_, _, .inl (h3 _ (by simp)), trivial, ?_⟩
      by_cases g3 : m3 = false ∧ l.Cost ≠ 0
      · simp [g3.1, g3.2]
      have s3 : m3 = true ∨ (m3 = false ∧ l.Cost = 0) := by
        cases m3
        · refine .inr ⟨rfl, ?_⟩
          by_cases h : l.Cost = 0
          · exact h
          · exact (g3 ⟨rfl, h⟩).elim
        · exact .inl rfl
      rcases s3 with rfl | ⟨rfl, r2⟩
      all_goals first | simp [r2] | simp
      all_goals
        refine ⟨_, _, .inl (h5 _ (by simp)), trivial, ?_⟩
        cases m5
        · cases e1 : l.Second
          · by_cases e2 : l.Fwd = 0
            · by_cases e3 : l.Tag = 0 <;> simp [e1, e2, e3]
            · simp [e1, e2]
          · simp [e1]
        · simp

theorem memL1 (a x : Int) : memL [a] x = decide (x = a) := by simp [memL]
def chkA (l : Lsa) : Int :=
  if chkH l.H ≠ 0 then chkH l.H else if forB l = true then 1 else
  if l.H.Ty = 1 then chkLinks l.Links l.H.Router else if l.H.Ty = 2 then chkAtt l.Att l.H.Router else
  if inR l.Cost 0 16777216 = false ∨ inR l.Tag 0 4294967295 = false then 5 else 0

theorem chkA_len {l : Lsa} (h : chkA l = 0) : l.Links.length ≤ 64 ∧ l.Att.length ≤ 64 := by
  unfold chkA at h
  split at h
  · contradiction
  · split at h
    · cases h
    · rename_i h2
      have hL : l.H.Ty ≠ 1 → l.Links.length = 0 := by
        intro hne
        by_cases e : 0 < l.Links.length
        · exact (h2 (by simp [forB, memL1, hne, e])).elim
        · omega
      have hA : l.H.Ty ≠ 2 → l.Att.length = 0 := by
        intro hne
        by_cases e : 0 < l.Att.length
        · refine (h2 ?_).elim
          unfold forB
          split
          · rfl
          · rw [if_pos ⟨by simp [memL1, hne], e⟩]
        · omega
      split at h
      · rename_i t1
        have := hA (by omega)
        unfold chkLinks at h
        split at h
        · cases h
        · omega
      · rename_i t1
        have := hL t1
        split at h
        · unfold chkAtt at h
          split at h
          · cases h
          · omega
        · rename_i t2
          have := hA t2
          omega

set_option maxHeartbeats 2000000 in
set_option maxRecDepth 10000 in
theorem c13 (l : Lsa) : CFun Try.prog 148 [encA l] [] (.int .i64 (chkA l)) [] := by
  refine CFun.intro (tr := []) (fz := []) (n := 41) (rs := [.tmp 2]) Try.func148 rfl (by kernel_rfl) rfl rfl mixed (by kernel_rfl) (by simp) (by simp) ?_
  have h40 := (c40 l.H).up' [cellsA l] rfl rfl
  have h41 := (c41 l).up' [cellsA l] rfl rfl
  have h42 : ∀ H, CFun Try.prog 162 [.sl 4 (l.Links.map encK) .sh, .int .u32 l.H.Router] H (.int .i64 (chkLinks l.Links l.H.Router)) H := fun H => (c42 l.Links _ rfl l.H.Router).up' H rfl rfl
  have h43 : ∀ H, CFun Try.prog 163 [.sl 1 (l.Att.map enc32) .sh, .int .u32 l.H.Router] H (.int .i64 (chkAtt l.Att l.H.Router)) H := fun H => (c43 l.Att _ rfl l.H.Router).up' H rfl rfl
  have h44 : ∀ n lo hi H, CFun Try.prog 164 [.int .i64 n, .int .i64 lo, .int .i64 hi] H (.bool (inR n lo hi)) H := fun n lo hi H => (c44 n lo hi).up' H rfl rfl
  rw [chkA]
  generalize chkLinks l.Links l.H.Router = v42 at h42 ⊢
  generalize chkAtt l.Att l.H.Router = v43 at h43 ⊢
  generalize forB l = v41 at h41 ⊢
  generalize chkH l.H = v40 at h40 ⊢
  simp
  refine ⟨_, _, .inl h40, trivial, ?_⟩
  by_cases e0 : v40 = 0
  · subst e0
    simp
    refine ⟨_, _, .inl h41, trivial, ?_⟩
    cases v41
    · by_cases t1 : l.H.Ty = 1
      · simp [t1]
        refine ⟨_, _, .inl (h42 _), trivial, ?_⟩
        simp
      · by_cases t2 : l.H.Ty = 2
        · simp [t2]
          refine ⟨_, _, .inl (h43 _), trivial, ?_⟩
          simp
        · simp [t1, t2]
          refine ⟨_, _, .inl (h44 _ _ _ _), trivial, ?_⟩
          cases e1 : inR l.Cost 0 16777216
          · simp
          · simp
            refine ⟨_, _, .inl (h44 _ _ _ _), trivial, ?_⟩
            cases e2 : inR l.Tag 0 4294967295 <;> simp
    · simp
  · simp [e0]
end Go.Proofs.Ytmgkemffbmfmpaa
