import Derived.Test.YtmgkemffbmfmpaaGreatZK21
set_option linter.unusedSimpArgs false
set_option linter.unusedVariables false
namespace Go.Proofs.YtmgkemffbmfmpaaGreat
open Go Go.Am

-- lspacket.body of a hello
set_option maxHeartbeats 8000000 in
set_option maxRecDepth 10000 in
theorem f69_1 (p : Pkt) (h : p.Kind = 1) (n : Nat) (hn : p.E.Seen.length = n) (hlen : n < 1000000) : CFun Tryz.prog 57 [encPk p] [] (encBs (bodyP p)) [] := by
  refine CFun.intro (tr := [156, 200097]) (fz := []) (n := 161) (rs := [.tmp 2]) Tryz.func57 rfl (by kernel_rfl) rfl rfl mixed (by kernel_rfl) (by simp) (by simp) ?_
  obtain ⟨R, r0, rs, rn, rl⟩ := run_rows p.E.Seen seenB (helB p.E) 4 (fun x _ => by rw [seenB_len]; omega) n hn
  have hb : bodyP p = R n := by rw [rn]; unfold bodyP; rw [if_pos h]
  rw [hb]
  have hBl : (helB p.E).length ≤ 16 := by rw [helB_len]; omega
  simp [h, hn]
  refine ⟨_, _, .inl (put111z (id := 1) rfl 1 (by omega) _), by simp, ?_⟩
  simp [hn, -List.map_append, -List.append_assoc]
  refine ⟨_, _, .inl (put111 (id := 1) (b := numB 1 (IntKind.u64.wrap p.E.Len)) rfl (by simp [numB_len]) 2 (by omega) _), by simp, ?_⟩
  simp [hn, -List.map_append, -List.append_assoc]
  refine ⟨_, _, .inl (put111 (id := 1) (b := numB 1 (IntKind.u64.wrap p.E.Len) ++ numB 2 (IntKind.u64.wrap p.E.Hello)) rfl (by simp [numB_len]) 2 (by omega) _), by simp, ?_⟩
  simp [hn, -List.map_append, -List.append_assoc]
  refine ⟨_, _, .inl (put111 (id := 1) (b := numB 1 (IntKind.u64.wrap p.E.Len) ++ numB 2 (IntKind.u64.wrap p.E.Hello) ++ numB 2 (IntKind.u64.wrap p.E.Dead)) rfl (by simp [numB_len]) 1 (by omega) _), by simp, ?_⟩
  simp [hn, -List.map_append, -List.append_assoc]
  refine ⟨_, _, .inl (put111 (id := 1) (b := numB 1 (IntKind.u64.wrap p.E.Len) ++ numB 2 (IntKind.u64.wrap p.E.Hello) ++ numB 2 (IntKind.u64.wrap p.E.Dead) ++ numB 1 (IntKind.u64.wrap p.E.Pri)) rfl (by simp [numB_len]) 4 (by omega) _), by simp, ?_⟩
  simp [hn, -List.map_append, -List.append_assoc]
  refine ⟨_, _, .inl (put111 (id := 1) (b := numB 1 (IntKind.u64.wrap p.E.Len) ++ numB 2 (IntKind.u64.wrap p.E.Hello) ++ numB 2 (IntKind.u64.wrap p.E.Dead) ++ numB 1 (IntKind.u64.wrap p.E.Pri) ++ numB 4 (IntKind.u64.wrap p.E.DR)) rfl (by simp [numB_len]) 4 (by omega) _), by simp, ?_⟩
  simp [hn, -List.map_append, -List.append_assoc]
  refine ⟨_, _, .inl (put111 (id := 1) (b := numB 1 (IntKind.u64.wrap p.E.Len) ++ numB 2 (IntKind.u64.wrap p.E.Hello) ++ numB 2 (IntKind.u64.wrap p.E.Dead) ++ numB 1 (IntKind.u64.wrap p.E.Pri) ++ numB 4 (IntKind.u64.wrap p.E.DR) ++ numB 4 (IntKind.u64.wrap p.E.BDR)) rfl (by simp [numB_len]) 1 (by omega) _), by simp, ?_⟩
  simp [hn, -List.map_append, -List.append_assoc]
  have hB : numB 1 (IntKind.u64.wrap p.E.Len) ++ numB 2 (IntKind.u64.wrap p.E.Hello) ++ numB 2 (IntKind.u64.wrap p.E.Dead) ++ numB 1 (IntKind.u64.wrap p.E.Pri) ++ numB 4 (IntKind.u64.wrap p.E.DR) ++ numB 4 (IntKind.u64.wrap p.E.BDR) ++ numB 1 (IntKind.u64.wrap (n : Int)) = R 0 := by rw [r0]; simp [helB, cntB, hn, U]
  rw [hB]
  refine LoopK.intro (tr := [156, 200097]) mixed (by kernel_rfl) (fun i : Nat => [(3, .ptr 1 0), (4, .ptr 2 0), (67, .sl 1 (p.E.Seen.map enc32) .sh), (68, .int .i64 n), (69, .int .i64 i)])
    (fun i => [[], [.sl 1 ((R i).map enc8) .own], [.fn 71 [] [.ptr 1 0]]]) (fun i => i ≤ n) (fun i => n - i) 0 ?_ ?_ ?_
  · simp
  · simp
  · rintro i h1
    by_cases hi : i < n
    · obtain ⟨x, hx, hd⟩ := get_drop (l := p.E.Seen) (i := i) (by omega)
      have w1 : IntKind.i64.wrap ((i : Int) + 1) = i + 1 := wrap_in (by omega)
      have hri := rl i
      have hrs := rs i x hx
      clear hd
      simp [hi, hx, gE hx, hn, -List.map_append, -List.append_assoc]
      refine ⟨_, _, .inl (put111 (id := 1) (b := R i) rfl (by omega) 4 (by omega) _), by simp, ?_⟩
      simp [w1, -List.map_append, -List.append_assoc]
      refine ⟨i + 1, by omega, by omega, ?_⟩
      simp [hrs, seenB, U]
    · have : i = n := by omega
      subst this
      simp [hn]
end Go.Proofs.YtmgkemffbmfmpaaGreat

namespace Go.Proofs.YtmgkemffbmfmpaaGreat
open Go Go.Am

def flagsB (a b c : Bool) : Int := bitP a 1 + bitP b 2 + bitP c 4
theorem flag_or (a b c : Bool) : IntKind.u64.wrap (((IntKind.u64.wrap (((bitP a 1 % 2 ^ IntKind.u64.bits).toNat ||| (bitP b 2 % 2 ^ IntKind.u64.bits).toNat : Nat) : Int) % 2 ^ IntKind.u64.bits).toNat ||| (bitP c 4 % 2 ^ IntKind.u64.bits).toNat : Nat) : Int) = flagsB a b c := by
  cases a <;> cases b <;> cases c <;> decide +kernel
-- lspacket.body of a database packet
set_option maxHeartbeats 8000000 in
set_option maxRecDepth 10000 in
theorem f69_2 (p : Pkt) (h : p.Kind = 2) (n : Nat) (hn : p.Heads.length = n) (hlen : n < 1000000) (hc : ∀ x ∈ p.Heads, chkH x = 0) : CFun Tryz.prog 57 [encPk p] [] (encBs (bodyP p)) [] := by
  refine CFun.intro (tr := [156, 200097]) (fz := []) (n := 161) (rs := [.tmp 2]) Tryz.func57 rfl (by kernel_rfl) rfl rfl mixed (by kernel_rfl) (by simp) (by simp) ?_
  have hb : bodyP p = numB 4 (U p.Seq) ++ numB 1 (flagsB p.Init p.More p.Master) ++ headsB p.Heads := by unfold bodyP flagsB; rw [if_neg (by omega), if_neg (by omega), if_neg (by omega), if_pos h]; rfl
  rw [hb]
  have hf := flag_or p.Init p.More p.Master
  have h1 := fun H => (f113 p.Init 1).up' H rfl rfl
  have h2 := fun H => (f113 p.More 2).up' H rfl rfl
  have h3 := fun H => (f113 p.Master 4).up' H rfl rfl
  have h4 := f112 p n hn hlen hc (.sl 1 ((numB 4 (U p.Seq) ++ numB 1 (flagsB p.Init p.More p.Master)).map enc8) .own) (numB 4 (U p.Seq) ++ numB 1 (flagsB p.Init p.More p.Master)) (by simp [numB_len]) (fun H x hid => put111 hid (by simp [numB_len]) 1 (by omega) x)
  simp [h]
  refine ⟨_, _, .inl (put111z (id := 1) rfl 4 (by omega) _), by simp, ?_⟩
  simp [-List.map_append, -List.append_assoc]
  refine ⟨_, _, .inl (by simpa using h1 _), by simp, ?_⟩
  simp [-List.map_append, -List.append_assoc]
  refine ⟨_, _, .inl (by simpa using h2 _), by simp, ?_⟩
  simp [-List.map_append, -List.append_assoc]
  refine ⟨_, _, .inl (by simpa using h3 _), by simp, ?_⟩
  simp [hf, -List.map_append, -List.append_assoc]
  refine ⟨_, _, .inl (put111 (id := 1) (b := numB 4 (U p.Seq)) rfl (by simp [numB_len]) 1 (by omega) _), by simp, ?_⟩
  simp [-List.map_append, -List.append_assoc]
  refine ⟨_, _, .inl (by simpa [h, -List.map_append, -List.append_assoc] using h4), by simp, ?_⟩
  simp
-- .. of acknowledgements
set_option maxHeartbeats 8000000 in
set_option maxRecDepth 10000 in
theorem f69_5 (p : Pkt) (k1 : ¬ p.Kind = 1) (k2 : ¬ p.Kind = 2) (k3 : ¬ p.Kind = 3) (k4 : ¬ p.Kind = 4) (n : Nat) (hn : p.Heads.length = n) (hlen : n < 1000000) (hc : ∀ x ∈ p.Heads, chkH x = 0) : CFun Tryz.prog 57 [encPk p] [] (encBs (bodyP p)) [] := by
  refine CFun.intro (tr := [156, 200097]) (fz := []) (n := 161) (rs := [.tmp 2]) Tryz.func57 rfl (by kernel_rfl) rfl rfl mixed (by kernel_rfl) (by simp) (by simp) ?_
  have hb : bodyP p = headsB p.Heads := by unfold bodyP; rw [if_neg k1, if_neg k3, if_neg k4, if_neg k2]
  rw [hb]
  have h4 := f112 p n hn hlen hc (.sl 0 [] .full) [] (by simp) (fun H x hid => put111z hid 1 (by omega) x)
  simp [k1, k2, k3, k4]
  refine ⟨_, _, .inl h4, by simp, ?_⟩
  simp
end Go.Proofs.YtmgkemffbmfmpaaGreat

namespace Go.Proofs.YtmgkemffbmfmpaaGreat
open Go Go.Am

-- lspacket.body of a request
set_option maxHeartbeats 8000000 in
set_option maxRecDepth 10000 in
theorem f69_3 (p : Pkt) (h : p.Kind = 3) (n : Nat) (hn : p.Keys.length = n) (hlen : n < 1000000) : CFun Tryz.prog 57 [encPk p] [] (encBs (bodyP p)) [] := by
  refine CFun.intro (tr := [156, 200097]) (fz := []) (n := 161) (rs := [.tmp 2]) Tryz.func57 rfl (by kernel_rfl) rfl rfl mixed (by kernel_rfl) (by simp) (by simp) ?_
  obtain ⟨R, r0, rs, rn, rl⟩ := run_rows p.Keys keyBt (cntB n) 10 (fun x _ => by rw [keyBt_len]; omega) n hn
  have hb : bodyP p = R n := by rw [rn]; unfold bodyP; rw [if_neg (by omega), if_pos h, hn]
  rw [hb]
  have hBl : (cntB n).length ≤ 16 := by rw [cntB_len]; omega
  simp [h, hn]
  refine ⟨_, _, .inl (put111z (id := 1) rfl 1 (by omega) _), by simp, ?_⟩
  simp [hn, -List.map_append, -List.append_assoc]
  have hB : numB 1 (IntKind.u64.wrap n) = R 0 := by rw [r0]; rfl
  rw [hB]
  refine LoopK.intro (tr := [156, 200097]) mixed (by kernel_rfl) (fun i : Nat => [(3, .ptr 1 0), (4, .ptr 2 0), (109, .sl 4 (p.Keys.map encY) .sh), (110, .int .i64 n), (111, .int .i64 i)])
    (fun i => [[], [.sl 1 ((R i).map enc8) .own], [.fn 71 [] [.ptr 1 0]]]) (fun i => i ≤ n) (fun i => n - i) 0 ?_ ?_ ?_
  · simp
  · simp
  · rintro i h1
    by_cases hi : i < n
    · obtain ⟨x, hx, hd⟩ := get_drop (l := p.Keys) (i := i) (by omega)
      have w1 : IntKind.i64.wrap ((i : Int) + 1) = i + 1 := wrap_in (by omega)
      have hri := rl i
      have hrs := rs i x hx
      clear hd
      simp [hi, hx, gE hx, hn, -List.map_append, -List.append_assoc]
      refine ⟨_, _, .inl (put111 (id := 1) (b := R i) rfl (by first | omega | (simp only [List.length_append, numB_len]; omega)) 1 (by omega) _), by simp, ?_⟩
      simp [w1, -List.map_append, -List.append_assoc]
      refine ⟨_, _, .inl (put111 (id := 1) (b := R i ++ numB 1 (IntKind.u64.wrap x.Ty)) rfl (by first | omega | (simp only [List.length_append, numB_len]; omega)) 4 (by omega) _), by simp, ?_⟩
      simp [w1, -List.map_append, -List.append_assoc]
      refine ⟨_, _, .inl (put111 (id := 1) (b := R i ++ numB 1 (IntKind.u64.wrap x.Ty) ++ numB 4 (IntKind.u64.wrap x.ID)) rfl (by first | omega | (simp only [List.length_append, numB_len]; omega)) 1 (by omega) _), by simp, ?_⟩
      simp [w1, -List.map_append, -List.append_assoc]
      refine ⟨_, _, .inl (put111 (id := 1) (b := R i ++ numB 1 (IntKind.u64.wrap x.Ty) ++ numB 4 (IntKind.u64.wrap x.ID) ++ numB 1 (IntKind.u64.wrap x.Len)) rfl (by first | omega | (simp only [List.length_append, numB_len]; omega)) 4 (by omega) _), by simp, ?_⟩
      simp [w1, -List.map_append, -List.append_assoc]
      refine ⟨i + 1, by omega, by omega, ?_⟩
      simp [hrs, keyBt, U]
    · have : i = n := by omega
      subst this
      simp [hn]
-- .. of an update
set_option maxHeartbeats 8000000 in
set_option maxRecDepth 10000 in
theorem f69_4 (p : Pkt) (h : p.Kind = 4) (n : Nat) (hn : p.Lsas.length = n) (hlen : n ≤ 64) (hc : ∀ x ∈ p.Lsas, sealE x = 0) : CFun Tryz.prog 57 [encPk p] [] (encBs (bodyP p)) [] := by
  refine CFun.intro (tr := [156, 200097]) (fz := []) (n := 161) (rs := [.tmp 2]) Tryz.func57 rfl (by kernel_rfl) rfl rfl mixed (by kernel_rfl) (by simp) (by simp) ?_
  obtain ⟨R, r0, rs, rn, rl⟩ := run_rows p.Lsas bytesA (cntB n) 726 (fun x hx => by
    obtain ⟨c1, c2⟩ := (sealE_iff x).1 (hc x hx)
    exact bytesA_len x (chkA_len c1).1 (chkA_len c1).2) n hn
  have hb : bodyP p = R n := by rw [rn]; unfold bodyP; rw [if_neg (by omega), if_neg (by omega), if_pos h, hn]
  rw [hb]
  have hBl : (cntB n).length ≤ 16 := by rw [cntB_len]; omega
  simp [h, hn]
  refine ⟨_, _, .inl (put111z (id := 1) rfl 1 (by omega) _), by simp, ?_⟩
  simp [hn, -List.map_append, -List.append_assoc]
  have hB : numB 1 (IntKind.u64.wrap n) = R 0 := by rw [r0]; rfl
  rw [hB]
  refine LoopK.intro (tr := [156, 200097]) mixed (by kernel_rfl) (fun i : Nat => [(3, .ptr 1 0), (145, .sl 15 (p.Lsas.map encA) .sh), (146, .int .i64 n), (147, .int .i64 i)])
    (fun i => [[], [.sl 1 ((R i).map enc8) .own]]) (fun i => i ≤ n) (fun i => n - i) 0 ?_ ?_ ?_
  · simp
  · simp
  · rintro i h1
    by_cases hi : i < n
    · obtain ⟨x, hx, hd⟩ := get_drop (l := p.Lsas) (i := i) (by omega)
      have w1 : IntKind.i64.wrap ((i : Int) + 1) = i + 1 := wrap_in (by omega)
      have hri := rl i
      have hrs := rs i x hx
      clear hd
      obtain ⟨c1, c2⟩ := (sealE_iff x).1 (hc x (List.mem_of_getElem? hx))
      have hel := encL_sealed c1 c2
      have h2 := fun H => (c21 x).up' H rfl rfl
      rw [hel] at h2
      have hxl := bytesA_len x (chkA_len c1).1 (chkA_len c1).2
      clear hel c1 c2
      generalize bytesA x = X at *
      have s1 : (R i).length + X.length ≤ 140737488355328 := by omega
      simp [hi, hx, gE hx, hn, -List.map_append, -List.append_assoc]
      refine ⟨_, _, .inl (by simpa using h2 _), by simp, ?_⟩
      simp [w1, s1, -List.map_append, -List.append_assoc]
      refine ⟨i + 1, by omega, by omega, ?_⟩
      simp [hrs]
    · have : i = n := by omega
      subst this
      simp [hn]

/-- lspacket.body of a valid packet. -/
theorem f69 (p : Pkt) (h : chkP p = 0) : CFun Tryz.prog 57 [encPk p] [] (encBs (bodyP p)) [] := by
  obtain ⟨h1, h2, h3, h4, h5, h6, h7⟩ := chkP_ok h
  by_cases k1 : p.Kind = 1
  · exact f69_1 p k1 _ rfl (by have := (chkE_ok (h3 k1)).2.2.2.2; omega)
  by_cases k2 : p.Kind = 2
  · obtain ⟨c1, c2⟩ := listG_all (h7 (.inl k2))
    exact f69_2 p k2 _ rfl (by omega) c2
  by_cases k3 : p.Kind = 3
  · exact f69_3 p k3 _ rfl (by have := (listG_all (h4 k3)).1; omega)
  by_cases k4 : p.Kind = 4
  · obtain ⟨c1, c2⟩ := listG_all (h5 k4)
    exact f69_4 p k4 _ rfl (by omega) c2
  · obtain ⟨c1, c2⟩ := listG_all (h7 (.inr (by omega)))
    exact f69_5 p k1 k2 k3 k4 _ rfl (by omega) c2
end Go.Proofs.YtmgkemffbmfmpaaGreat

namespace Go.Proofs.YtmgkemffbmfmpaaGreat
open Go Go.Am

-- routingref24.body of a hello
end Go.Proofs.YtmgkemffbmfmpaaGreat

namespace Go.Proofs.YtmgkemffbmfmpaaGreat
open Go Go.Am

end Go.Proofs.YtmgkemffbmfmpaaGreat

namespace Go.Proofs.YtmgkemffbmfmpaaGreat
open Go Go.Am

-- routingref23.Put onto a row without room
theorem lend71 {H : List (List AVal)} {id : Nat} {b : List Int} {n : Nat} {cap : Option Nat} (hid : H[id]? = some (b.map enc8)) (hn : b.length = n) (h0 : 0 < n) (hlen : n < 140737488355328) (hb : isB b) :
    CFun Tryz.prog 24 [.osl id 0 n cap 1] H (.int .i64 (inet b)) H := by
  have h := f71 b n hn hlen hb
  have hne : b.map enc8 ≠ [] := by intro e; have := congrArg List.length e; simp at this; subst this; simp at hn; omega
  have e : frzV id (b.map enc8) false (.osl id 0 n cap 1) = encBs b := by
    simp only [frzV, frz1]
    rw [if_pos ⟨trivial, by simp; omega, by omega, by simp⟩, chunk8 b n hn]
    rfl
  have := CFun.lend (args := [.osl id 0 n cap 1]) (id := id) (cs := b.map enc8) (cs0 := b.map enc8) (ag := false) (x := .int .i64 (inet b)) (f := 24) (P := Tryz.prog) (by simp only [List.map_cons, List.map_nil, e]; exact h) hid hne (fun _ _ h => h) (Nat.le_refl _) (by rw [List.all_map]; simp [AVal.tree]) (by simp only [List.map_cons, List.map_nil, e]; rfl) rfl
  exact this
-- slices.Clone of bytes, into a row
set_option maxHeartbeats 1000000 in
set_option maxRecDepth 10000 in
theorem f139 (b : List Int) (n : Nat) (hn : b.length = n) (h0 : 0 < n) (s1 : n ≤ 140737488355328) : CFun Tryz.prog 23 [encBs b] [] (.osl 0 0 n none 1) [b.map enc8] := by
  refine CFun.intro (tr := [100007]) (fz := []) (n := 8) (rs := [.tmp 2]) Tryz.func23 rfl (by kernel_rfl) rfl rfl mixed (by kernel_rfl) (by simp) (by simp) ?_
  have hne : b ≠ [] := by rintro rfl; simp at hn; omega
  have e : (b.map enc8).isEmpty = false := by cases b <;> simp_all
  have hc : (b.map enc8).flatMap AVal.cells = b.map enc8 := by
    clear hne e hn
    induction b with
    | nil => rfl
    | cons x b ih => simp only [List.map_cons, List.flatMap_cons, ih]; rfl
  have hd : (b.map enc8).map AVal.dis = b.map enc8 := by rw [List.map_map]; rfl
  have hl : LeCells 1 (b.map enc8) (b.map enc8) := treeCells_le 1 (by rw [List.all_map]; simp [AVal.tree])
  simp [hne, hn, h0, s1, e, hc, hd, hl]
end Go.Proofs.YtmgkemffbmfmpaaGreat
