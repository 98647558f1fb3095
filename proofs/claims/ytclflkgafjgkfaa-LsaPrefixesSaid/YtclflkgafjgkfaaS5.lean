import Derived.Test.YtclflkgafjgkfaaS4
set_option linter.unusedSimpArgs false
set_option linter.unusedVariables false
namespace Go.Proofs.Ytclflkgafjgkfaa
open Go Go.Am

theorem encBs_noid (b : List Int) : [encBs b].all noid0 = true := rfl
set_option maxHeartbeats 1000000 in
set_option maxRecDepth 10000 in
theorem c92 (b : List Int) (hb : b.length < 1099511627000) (n : Nat) (hn : n ≤ 8) (x : Int) : CFun Try.prog 92 [.int .i64 n, .int .u64 x, .ptr 0 0] [[encBs b]] (.tup []) [[encBs (b ++ numB n x)]] := by
  refine CFun.intro (tr := []) (fz := []) (n := 9) (rs := []) Try.func92 rfl (by kernel_rfl) rfl rfl mixed (by kernel_rfl) (by simp) (by simp) ?_
  simp
  refine ⟨_, _, .inl (by simpa [cargs] using (c88 b hb n hn x).up' [[encBs b]] rfl rfl), by simp, ?_⟩
  simp
set_option maxHeartbeats 1000000 in
set_option maxRecDepth 10000 in
theorem c92z (k : Nat) (n : Nat) (hn : n ≤ 8) (x : Int) : CFun Try.prog 92 [.int .i64 n, .int .u64 x, .ptr 0 0] [[.sl k [] .full]] (.tup []) [[encBs (numB n x)]] := by
  refine CFun.intro (tr := []) (fz := []) (n := 9) (rs := []) Try.func92 rfl (by kernel_rfl) rfl rfl mixed (by kernel_rfl) (by simp) (by simp) ?_
  simp
  refine ⟨_, _, .inl (by simpa [cargs] using ((c88 [] (by simp) n hn x).wk [.sl k [] .full, .int .i64 n, .int .u64 x] (by simp) ⟨⟨rfl, .inr ⟨.inr rfl, .inl rfl⟩⟩, rfl, rfl, trivial⟩).up' [[.sl k [] .full]] rfl rfl), by simp, ?_⟩
  simp
theorem put92 {H : List (List AVal)} {id : Nat} {b : List Int} (n : Nat) (x : Int) (hid : H[id]? = some [encBs b]) (hn : n ≤ 8) (hb : b.length < 1099511627000) : CFun Try.prog 92 [.int .i64 n, .int .u64 x, .ptr id 0] H (.tup []) (H.set id [encBs (b ++ numB n x)]) :=
  (c92 b hb n hn x).at hid rfl rfl rfl rfl
theorem put92z {H : List (List AVal)} {id k : Nat} (n : Nat) (x : Int) (hid : H[id]? = some [.sl k [] .full]) (hn : n ≤ 8) : CFun Try.prog 92 [.int .i64 n, .int .u64 x, .ptr id 0] H (.tup []) (H.set id [encBs (numB n x)]) :=
  (c92z k n hn x).at hid rfl rfl rfl rfl

abbrev U (x : Int) : Int := IntKind.u64.wrap x
def hdrB (h : Hdr) : List Int := numB 2 (U h.Age) ++ numB 1 (U h.Ty) ++ numB 1 (U h.Len) ++ numB 4 (U h.ID) ++ numB 4 (U h.Router) ++ numB 4 (U h.Seq) ++ numB 2 (U h.Sum)
set_option maxHeartbeats 2000000 in
set_option maxRecDepth 10000 in
theorem c69 (h : Hdr) : CFun Try.prog 69 [encH h] [] (encBs (hdrB h)) [] := by
  refine CFun.intro (tr := []) (fz := []) (n := 42) (rs := [.tmp 2]) Try.func69 rfl (by kernel_rfl) rfl rfl mixed (by kernel_rfl) (by simp) (by simp) ?_
  simp
  refine ⟨_, _, .inl (put92z 2 (U h.Age) (by rfl) (by omega)), by simp, ?_⟩
  simp [-List.map_append]
  refine ⟨_, _, .inl (put92 1 (U h.Ty) (by rfl) (by omega) (by simp [numB_len])), by simp, ?_⟩
  simp [-List.map_append]
  refine ⟨_, _, .inl (put92 1 (U h.Len) (by rfl) (by omega) (by simp [numB_len])), by simp, ?_⟩
  simp [-List.map_append]
  refine ⟨_, _, .inl (put92 4 (U h.ID) (by rfl) (by omega) (by simp [numB_len])), by simp, ?_⟩
  simp [-List.map_append]
  refine ⟨_, _, .inl (put92 4 (U h.Router) (by rfl) (by omega) (by simp [numB_len])), by simp, ?_⟩
  simp [-List.map_append]
  refine ⟨_, _, .inl (put92 4 (U h.Seq) (by rfl) (by omega) (by simp [numB_len])), by simp, ?_⟩
  simp [-List.map_append]
  refine ⟨_, _, .inl (put92 2 (U h.Sum) (by rfl) (by omega) (by simp [numB_len])), by simp, ?_⟩
  simp [-List.map_append, hdrB]
theorem hdrB_len (h : Hdr) : (hdrB h).length = 18 := by simp [hdrB, numB_len]
end Go.Proofs.Ytclflkgafjgkfaa
