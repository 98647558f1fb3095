import Derived.Test.YtclflkgafjgkfaaS5
set_option linter.unusedSimpArgs false
set_option linter.unusedVariables false
namespace Go.Proofs.Ytclflkgafjgkfaa
open Go Go.Am

structure Lsa where
  H : Hdr
  Border : Bool
  Boundary : Bool
  Links : List Lnk
  Att : List Int
  Cost : Int
  Second : Bool
  Fwd : Int
  Tag : Int
  deriving DecidableEq
@[simp] def cellsA (l : Lsa) : List AVal := [.int .i64 l.H.Ty, .int .u32 l.H.ID, .int .i64 l.H.Len, .int .u32 l.H.Router, .int .i64 l.H.Seq, .int .i64 l.H.Age, .int .i64 l.H.Sum,
  .bool l.Border, .bool l.Boundary, .sl 4 (l.Links.map encK) .sh, .sl 1 (l.Att.map enc32) .sh, .int .i64 l.Cost, .bool l.Second, .int .u32 l.Fwd, .int .i64 l.Tag]
@[simp] def encA (l : Lsa) : AVal := .agg (cellsA l)

def flagI (b : Bool) (n : Int) : Int := if b = true then n else 0
theorem c102 (b : Bool) (n : Int) : CFun Try.prog 102 [.bool b, .int .u64 n] [] (.int .u64 (flagI b n)) [] := by
  refine CFun.intro (tr := []) (fz := []) (n := 7) (rs := [.tmp 4]) Try.func102 rfl (by kernel_rfl) rfl rfl mixed (by kernel_rfl) (by simp) (by simp) ?_
  cases b <;> simp [flagI]

theorem c101 (b : List Int) (hb : b.length < 1099511627000) (n : Nat) (hn : n ≤ 8) (x : Int) : CFun Try.prog 101 [.int .i64 n, .int .u64 x, .ptr 0 0] [[encBs b]] (.tup []) [[encBs (b ++ numB n x)]] := by
  refine CFun.intro (tr := []) (fz := []) (n := 9) (rs := []) Try.func101 rfl (by kernel_rfl) rfl rfl mixed (by kernel_rfl) (by simp) (by simp) ?_
  simp
  refine ⟨_, _, .inl (by simpa [cargs] using (c88 b hb n hn x).up' [[encBs b]] rfl rfl), by simp, ?_⟩
  simp
theorem c101z (k : Nat) (n : Nat) (hn : n ≤ 8) (x : Int) : CFun Try.prog 101 [.int .i64 n, .int .u64 x, .ptr 0 0] [[.sl k [] .full]] (.tup []) [[encBs (numB n x)]] := by
  refine CFun.intro (tr := []) (fz := []) (n := 9) (rs := []) Try.func101 rfl (by kernel_rfl) rfl rfl mixed (by kernel_rfl) (by simp) (by simp) ?_
  simp
  refine ⟨_, _, .inl (by simpa [cargs] using ((c88 [] (by simp) n hn x).wk [.sl k [] .full, .int .i64 n, .int .u64 x] (by simp) ⟨⟨rfl, .inr ⟨.inr rfl, .inl rfl⟩⟩, rfl, rfl, trivial⟩).up' [[.sl k [] .full]] rfl rfl), by simp, ?_⟩
  simp
theorem put101 {H : List (List AVal)} {id : Nat} {b : List Int} (n : Nat) (x : Int) (hid : H[id]? = some [encBs b]) (hn : n ≤ 8) (hb : b.length < 1099511627000) : CFun Try.prog 101 [.int .i64 n, .int .u64 x, .ptr id 0] H (.tup []) (H.set id [encBs (b ++ numB n x)]) :=
  (c101 b hb n hn x).at hid rfl rfl rfl rfl
theorem put101z {H : List (List AVal)} {id k : Nat} (n : Nat) (x : Int) (hid : H[id]? = some [.sl k [] .full]) (hn : n ≤ 8) : CFun Try.prog 101 [.int .i64 n, .int .u64 x, .ptr id 0] H (.tup []) (H.set id [encBs (numB n x)]) :=
  (c101z k n hn x).at hid rfl rfl rfl rfl

def orU (a b : Int) : Int := IntKind.u64.wrap (((a % 2 ^ IntKind.u64.bits).toNat ||| (b % 2 ^ IntKind.u64.bits).toNat : Nat) : Int)
def linkB (x : Lnk) : List Int := numB 1 (U x.Kind) ++ numB 4 (U x.ID) ++ numB 4 (U x.Data) ++ numB 2 (U x.Cost)
def attB (x : Int) : List Int := numB 4 (U x)
def bodyB (l : Lsa) : List Int :=
  if l.H.Ty = 1 then numB 1 (orU (flagI l.Border 1) (flagI l.Boundary 2)) ++ numB 1 (U l.Links.length) ++ (l.Links.map linkB).flatten
  else if l.H.Ty = 2 then numB 1 (U l.Att.length) ++ (l.Att.map attB).flatten
  else if l.H.Ty = 3 ∨ l.H.Ty = 4 then numB 4 (U l.Cost)
  else if l.H.Ty = 5 then numB 1 (flagI l.Second 1) ++ numB 4 (U l.Cost) ++ numB 4 (U l.Fwd) ++ numB 4 (U l.Tag)
  else []

theorem linkB_len (x : Lnk) : (linkB x).length = 11 := by simp [linkB, numB_len]
theorem attB_len (x : Int) : (attB x).length = 4 := by simp [attB, numB_len]
theorem take_map {α β : Type} (f : α → List β) (l : List α) (i : Nat) (x : α) (h : l[i]? = some x) : ((l.map f).take (i + 1)).flatten = ((l.map f).take i).flatten ++ f x :=
  flat_take _ _ _ (by simp [h])

set_option maxHeartbeats 4000000 in
set_option maxRecDepth 10000 in
theorem c87 (l : Lsa) (hl : l.Links.length ≤ 64) (ha : l.Att.length ≤ 64) : CFun Try.prog 87 [encA l] [] (encBs (bodyB l)) [] := by
  refine CFun.intro (tr := [200031, 200093]) (fz := []) (n := 110) (rs := [.tmp 2]) Try.func87 rfl (by kernel_rfl) rfl rfl mixed (by kernel_rfl) (by simp) (by simp) ?_
  have h102 : ∀ b n H, CFun Try.prog 102 [.bool b, .int .u64 n] H (.int .u64 (flagI b n)) H := fun b n H => (c102 b n).up' H rfl rfl
  by_cases t3 : l.H.Ty = 3
  · simp [t3]
    refine ⟨_, _, .inl (put101z 4 (U l.Cost) (by rfl) (by omega)), by simp, ?_⟩
    simp [bodyB, t3]
  by_cases t4 : l.H.Ty = 4
  · simp [t4]
    refine ⟨_, _, .inl (put101z 4 (U l.Cost) (by rfl) (by omega)), by simp, ?_⟩
    simp [bodyB, t4]
  by_cases t5 : l.H.Ty = 5
  · simp [t5]
    refine ⟨_, _, .inl (h102 _ _ _), by simp, ?_⟩
    simp
    refine ⟨_, _, .inl (put101z 1 (flagI l.Second 1) (by rfl) (by omega)), by simp, ?_⟩
    simp
    refine ⟨_, _, .inl (put101 4 (U l.Cost) (by rfl) (by omega) (by simp [numB_len])), by simp, ?_⟩
    simp [-List.map_append]
    refine ⟨_, _, .inl (put101 4 (U l.Fwd) (by rfl) (by omega) (by simp [numB_len])), by simp, ?_⟩
    simp [-List.map_append]
    refine ⟨_, _, .inl (put101 4 (U l.Tag) (by rfl) (by omega) (by simp [numB_len])), by simp, ?_⟩
    simp [-List.map_append, bodyB, t5]
  by_cases t1 : l.H.Ty = 1
  · have h1 : bodyB l = numB 1 (orU (flagI l.Border 1) (flagI l.Boundary 2)) ++ numB 1 (U l.Links.length) ++ (l.Links.map linkB).flatten := by simp [bodyB, t1]
    rw [h1]
    obtain ⟨n, hn⟩ : ∃ n, l.Links.length = n := ⟨_, rfl⟩
    have hc : (l.Links.length : Int) = n := by omega
    rw [hc]
    simp [t1, hc, -List.map_append, -List.append_assoc]
    refine ⟨_, _, .inl (h102 _ _ _), by simp, ?_⟩
    simp [-List.map_append, -List.append_assoc]
    refine ⟨_, _, .inl (h102 _ _ _), by simp, ?_⟩
    simp [-List.map_append, -List.append_assoc]
    refine ⟨_, _, .inl (put101z 1 (orU (flagI l.Border 1) (flagI l.Boundary 2)) (by rfl) (by omega)), by simp, ?_⟩
    simp [hc, -List.map_append, -List.append_assoc]
    refine ⟨_, _, .inl (put101 1 (U n) (by rfl) (by omega) (by simp [numB_len])), by simp, ?_⟩
    have hp : (numB 1 (orU (flagI l.Border 1) (flagI l.Boundary 2)) ++ numB 1 (U n)).length = 2 := by simp [numB_len]
    generalize numB 1 (orU (flagI l.Border 1) (flagI l.Boundary 2)) ++ numB 1 (U n) = pre at hp ⊢
    simp [hc, -List.map_append, -List.append_assoc]
    refine LoopK.intro (tr := [200031, 200093]) mixed (by kernel_rfl) (fun q : Nat × List Int => [(3, .ptr 1 0), (4, .fn 101 [] [.ptr 1 0]), (39, .sl 4 (l.Links.map encK) .sh), (40, .int .i64 n), (41, .int .i64 q.1)]) (fun q => [cellsA l, [encBs q.2]])
      (fun q => q.1 ≤ n ∧ q.2.length ≤ 2 + 11 * q.1 ∧ q.2 = pre ++ ((l.Links.map linkB).take q.1).flatten) (fun q => n - q.1) (0, pre) ?_ ?_ ?_
    · exact ⟨by simp, by simp [hp], by simp⟩
    · simp [t1]
    · rintro ⟨i, out⟩ ⟨k1, k2, k3⟩
      simp only at k1 k2 k3
      by_cases hi : i < n
      · obtain ⟨x, hx, _⟩ := get_drop (l := l.Links) (i := i) (by omega)
        have w1 : IntKind.i64.wrap ((i : Int) + 1) = i + 1 := wrap_in (by omega)
        have hnx := take_map linkB l.Links i x hx
        have s0 : out.length < 1099511620000 := by omega
        clear hc hn
        simp [hi, hx]
        refine ⟨_, _, .inl (put101 1 (U x.Kind) (by rfl) (by omega) (by first | omega | (simp [numB_len]; omega))), by simp, ?_⟩
        simp [-List.map_append]
        refine ⟨_, _, .inl (put101 4 (U x.ID) (by rfl) (by omega) (by first | omega | (simp [numB_len]; omega))), by simp, ?_⟩
        simp [-List.map_append]
        refine ⟨_, _, .inl (put101 4 (U x.Data) (by rfl) (by omega) (by first | omega | (simp [numB_len]; omega))), by simp, ?_⟩
        simp [-List.map_append]
        refine ⟨_, _, .inl (put101 2 (U x.Cost) (by rfl) (by omega) (by first | omega | (simp [numB_len]; omega))), by simp, ?_⟩
        simp [-List.map_append, w1]
        refine ⟨i + 1, out ++ linkB x, ⟨by omega, by rw [List.length_append, linkB_len]; omega, ?_⟩, by omega, by simp, by simp [linkB]⟩
        show out ++ linkB x = pre ++ ((l.Links.map linkB).take (i + 1)).flatten
        rw [hnx, ← List.append_assoc, ← k3]
      · have hin : i = n := by omega
        subst hin
        have ht : (l.Links.map linkB).take i = l.Links.map linkB := List.take_of_length_le (by simp; omega)
        rw [ht] at k3
        simp [k3]
  by_cases t2 : l.H.Ty = 2
  · have h1 : bodyB l = numB 1 (U l.Att.length) ++ (l.Att.map attB).flatten := by simp [bodyB, t2]
    rw [h1]
    obtain ⟨n, hn⟩ : ∃ n, l.Att.length = n := ⟨_, rfl⟩
    have hc : (l.Att.length : Int) = n := by omega
    rw [hc]
    simp [t2, hc, -List.map_append]
    refine ⟨_, _, .inl (put101z 1 (U n) (by rfl) (by omega)), by simp, ?_⟩
    have hp : (numB 1 (U n)).length = 1 := by simp [numB_len]
    generalize numB 1 (U n) = pre at hp ⊢
    simp [hc, -List.map_append]
    refine LoopK.intro (tr := [200031, 200093]) mixed (by kernel_rfl) (fun q : Nat × List Int => [(3, .ptr 1 0), (4, .fn 101 [] [.ptr 1 0]), (73, .sl 1 (l.Att.map enc32) .sh), (74, .int .i64 n), (75, .int .i64 q.1)]) (fun q => [cellsA l, [encBs q.2]])
      (fun q => q.1 ≤ n ∧ q.2.length ≤ 1 + 4 * q.1 ∧ q.2 = pre ++ ((l.Att.map attB).take q.1).flatten) (fun q => n - q.1) (0, pre) ?_ ?_ ?_
    · exact ⟨by simp, by simp [hp], by simp⟩
    · simp [t2]
    · rintro ⟨i, out⟩ ⟨k1, k2, k3⟩
      simp only at k1 k2 k3
      by_cases hi : i < n
      · obtain ⟨x, hx, _⟩ := get_drop (l := l.Att) (i := i) (by omega)
        have w1 : IntKind.i64.wrap ((i : Int) + 1) = i + 1 := wrap_in (by omega)
        have hnx := take_map attB l.Att i x hx
        have s0 : out.length < 1099511620000 := by omega
        clear hc hn
        simp [hi, hx]
        refine ⟨_, _, .inl (put101 4 (U x) (by rfl) (by omega) (by first | omega | (simp [numB_len]; omega))), by simp, ?_⟩
        simp [-List.map_append, w1]
        refine ⟨i + 1, out ++ attB x, ⟨by omega, by rw [List.length_append, attB_len]; omega, ?_⟩, by omega, by simp, by simp [attB]⟩
        show out ++ attB x = pre ++ ((l.Att.map attB).take (i + 1)).flatten
        rw [hnx, ← List.append_assoc, ← k3]
      · have hin : i = n := by omega
        subst hin
        have ht : (l.Att.map attB).take i = l.Att.map attB := List.take_of_length_le (by simp; omega)
        rw [ht] at k3
        simp [k3]
  · simp [t1, t2, t3, t4, t5, bodyB]
end Go.Proofs.Ytclflkgafjgkfaa
