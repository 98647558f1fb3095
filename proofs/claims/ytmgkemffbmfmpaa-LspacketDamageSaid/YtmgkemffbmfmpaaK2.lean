import Derived.Test.YtmgkemffbmfmpaaE18
import Derived.Test.YtmgkemffbmfmpaaE2
set_option linter.unusedSimpArgs false
set_option linter.unusedVariables false
namespace Go.Proofs.Ytmgkemffbmfmpaa
open Go Go.Am

theorem get_in {db : List Lsa} {q : Lsa → Prop} (h0 : q lsa0) (h : ∀ x ∈ db, q x) (k : LKey) : q (getD_ db k).1 := by
  unfold getD_
  split
  · rename_i l hl
    exact h l (List.mem_of_find?_eq_some hl)
  · exact h0
theorem okP0 : okP lsa0 := by simp [okP, lsa0]
-- LsdbAsks
set_option maxHeartbeats 2000000 in
set_option maxRecDepth 10000 in
theorem g11 (db : List Lsa) (hl : db.length * 136 ≤ 140737488351232) (ok : ∀ x ∈ db, okD x) (k : LKey) (r : Int) : CFun Try.prog 11 [.sl 15 (db.map encA) .sh, encY k, .int .u32 r] [] (.bool true) [] := by
  refine CFun.intro (tr := []) (fz := []) (n := 59) (rs := [.tmp 6]) Try.func11 rfl (by kernel_rfl) rfl rfl mixed (by kernel_rfl) (by simp) (by simp) ?_
  have okl : ∀ x ∈ db, okL x := fun x hx => okL_of (ok x hx)
  have okp : ∀ x ∈ db, okP x := fun x hx => okP_of (ok x hx)
  have hl2 : db.length < 1034834473201 := by omega
  have hl3 : db.length < 1099511627776 := by omega
  have h1 := fun H => (f37 db _ rfl hl3 okl k).up' H rfl rfl
  have h2 := fun H => (f39 db _ rfl hl3 k).up' H rfl rfl
  have hg := get_in okP0 okp k
  have h3 := fun H => (c20 (getD_ db k).1 (getD_ db k).1 hg.1 hg.2).up' H rfl rfl
  rw [sameB_self] at h3
  simp only [decide_true, Bool.true_and] at h3
  have h4 := fun H => (f40 db _ rfl hl2 okl k).up' H rfl rfl
  have h5 := fun H => (f41 db _ rfl hl2 k).up' H rfl rfl
  have hd : (dropD db k).length ≤ db.length := List.length_filter_le _ _
  have h6 := fun H => (f28 (dropD db k) (dropD db k) _ _ rfl rfl (by omega) (fun x hx => okp x (List.mem_filter.1 hx).1)).up' H rfl rfl
  have h7 := fun H => (f43 db _ rfl hl3).up' H rfl rfl
  have h8 := fun H => (f44 db _ rfl hl3).up' H rfl rfl
  have h9 := fun H => (f42 (db.map Lsa.H) (db.map Lsa.H) _ _ rfl rfl (by simp; omega)).up' H rfl rfl
  have h10 := fun H => (f45 db _ rfl hl2 okl r).up' H rfl rfl
  have h11 := fun H => (f46 db _ rfl hl2 r).up' H rfl rfl
  have he : (fromD db r).length ≤ db.length := List.length_filter_le _ _
  have h12 := fun H => (f28 (fromD db r) (fromD db r) _ _ rfl rfl (by omega) (fun x hx => okp x (List.mem_filter.1 hx).1)).up' H rfl rfl
  have h0 := fun H => f25.up' H rfl rfl
  simp only [decide_true] at h6 h9 h12
  clear hl hl2 hl3 hd he hg
  generalize getD_ db k = g at h1 h2 h3
  generalize dropD db k = d at h4 h5 h6
  generalize fromD db r = e at h10 h11 h12
  generalize db.map Lsa.H = hh at h7 h8 h9
  simp
  refine ⟨_, _, .inl (by simpa using h1 _), by simp, ?_⟩
  simp
  refine ⟨_, _, .inl (by simpa using h2 _), by simp, ?_⟩
  simp
  refine ⟨_, _, .inl (by simpa using h3 _), by simp, ?_⟩
  simp
  refine ⟨_, _, .inl (by simpa using h4 _), by simp, ?_⟩
  simp
  refine ⟨_, _, .inl (by simpa using h5 _), by simp, ?_⟩
  simp
  refine ⟨_, _, .inl (by simpa using h6 _), by simp, ?_⟩
  simp
  refine ⟨_, _, .inl (by simpa using h7 _), by simp, ?_⟩
  simp
  refine ⟨_, _, .inl (by simpa using h8 _), by simp, ?_⟩
  simp
  refine ⟨_, _, .inl (by simpa using h9 _), by simp, ?_⟩
  simp
  refine ⟨_, _, .inl (by simpa using h10 _), by simp, ?_⟩
  simp
  refine ⟨_, _, .inl (by simpa using h11 _), by simp, ?_⟩
  simp
  refine ⟨_, _, .inl (by simpa using h12 _), by simp, ?_⟩
  simp
  refine ⟨_, _, .inl (by simpa using h0 _), by simp, ?_⟩
  simp
-- LsdbCompares
set_option maxHeartbeats 2000000 in
set_option maxRecDepth 10000 in
theorem g12 (a b : List Lsa) (hl : a.length < 1099511627776) (ok : ∀ x ∈ a, okD x) (h : Hdr) (hh : okH h) : CFun Try.prog 12 [.sl 15 (a.map encA) .sh, .sl 15 (b.map encA) .sh, encH h] [] (.bool true) [] := by
  refine CFun.intro (tr := []) (fz := []) (n := 35) (rs := [.tmp 6]) Try.func12 rfl (by kernel_rfl) rfl rfl mixed (by kernel_rfl) (by simp) (by simp) ?_
  have okl : ∀ x ∈ a, okL x := fun x hx => okL_of (ok x hx)
  have okp : ∀ x ∈ a, okP x := fun x hx => okP_of (ok x hx)
  have h1 := fun H => (f47 a b hl okp).up' H rfl rfl
  have h2 := fun H => (f48 a b _ _ rfl rfl hl okp).up' H rfl rfl
  have h3 := fun H => (f47 a a hl okp).up' H rfl rfl
  have hs : eqW sameX a a = true := eqW_refl (fun x => by simp [sameX, sameB_self]) a
  rw [hs] at h3
  have h4 := fun H => (f24 a _ rfl hl (fun x hx => (ok x hx).1)).up' H rfl rfl
  have h5 := fun H => (f36 a _ rfl hl okl h).up' H rfl rfl
  have h6 := fun H => (f49 a _ rfl hl h hh.2.2.2.2.2.1 (fun x hx => (ok x hx).1.1.2.2.2.2.2.1)).up' H rfl rfl
  have h0 := fun H => f25.up' H rfl rfl
  clear hl ok okl okp hs hh
  generalize eqW sameX a b = w at h1 h2
  generalize cmpD a h = c at h5 h6
  simp
  refine ⟨_, _, .inl (by simpa using h1 _), by simp, ?_⟩
  simp
  refine ⟨_, _, .inl (by simpa using h2 _), by simp, ?_⟩
  simp
  refine ⟨_, _, .inl (by simpa using h3 _), by simp, ?_⟩
  simp
  refine ⟨_, _, .inl (by simpa using h4 _), by simp, ?_⟩
  by_cases e : chkD a = 0
  · simp [e]
    refine ⟨_, _, .inl (by simpa using h5 _), by simp, ?_⟩
    simp
    refine ⟨_, _, .inl (by simpa using h6 _), by simp, ?_⟩
    simp
    refine ⟨_, _, .inl (by simpa using h0 _), by simp, ?_⟩
    simp
  · simp [e]
    refine ⟨_, _, .inl (by simpa using h0 _), by simp, ?_⟩
    simp
/-! What Put does, to a valid database. -/
theorem put_err {db : List Lsa} {l : Lsa} (h : (putD db l).2 ≠ 0) : (putD db l).1 = [] := by
  unfold putD at h ⊢
  split
  · rfl
  · rename_i h1
    rw [if_neg h1] at h
    split
    · rfl
    · rename_i h2
      rw [if_neg h2] at h
      exact (h rfl).elim
theorem put_ok {db : List Lsa} {l : Lsa} (hs : asc db) (h : (putD db l).2 = 0) : (putD db l).1 = putW l db ∧ sealE l = 0 ∧ (fndD db (keyA l) = true ∨ db.length < 2000) := by
  unfold putD at h ⊢
  split at h
  · rename_i h1; exact (h1 h).elim
  · rename_i h1
    rw [if_neg h1]
    split at h
    · cases h
    · rename_i h2
      rw [if_neg h2]
      refine ⟨putW_R l hs, Decidable.not_not.1 h1, ?_⟩
      cases hf : fndD db (keyA l)
      · right
        have := not_and.1 h2 hf
        omega
      · exact .inl rfl
theorem put_valid {db : List Lsa} {l : Lsa} (hv : chkD db = 0) (h : (putD db l).2 = 0) : chkD (putD db l).1 = 0 := by
  obtain ⟨v1, v2, v3⟩ := chkD_ok hv
  obtain ⟨p1, p2, p3⟩ := put_ok v3 h
  rw [p1]
  refine chkD_of ?_ ?_ (putW_asc v3)
  · rw [putW_len v3]
    split
    · omega
    · rename_i hf
      rcases p3 with p3 | p3
      · exact (hf p3).elim
      · omega
  · intro x hx
    rcases (putW_mem v3 x).1 hx with rfl | ⟨hx, _⟩
    · exact p2
    · exact v2 x hx
theorem get_put {db : List Lsa} {l : Lsa} (hs : asc db) : getD_ (putW l db) (keyA l) = (l, true) := by
  have := (find_mem (putW_asc (l := l) hs) (k := keyA l) (x := l)).2 ⟨(putW_mem hs l).2 (.inl rfl), rfl⟩
  simp [getD_, this]
theorem get_other {db : List Lsa} {l : Lsa} (hs : asc db) {k : LKey} (hk : k ≠ keyA l) : getD_ (putW l db) k = getD_ db k := by
  have : (putW l db).find? (hasK k) = db.find? (hasK k) := by
    cases hf : db.find? (hasK k) with
    | none =>
      have h := find_none.1 hf
      refine find_none.2 fun x hx => ?_
      rcases (putW_mem hs x).1 hx with rfl | ⟨hx, _⟩
      · exact fun e => hk e.symm
      · exact h x hx
    | some y =>
      obtain ⟨hy, ey⟩ := (find_mem hs).1 hf
      exact (find_mem (putW_asc hs)).2 ⟨(putW_mem hs y).2 (.inr ⟨hy, by rw [ey]; exact hk⟩), ey⟩
  simp only [getD_, this]
-- LsdbKeeps
set_option maxHeartbeats 2000000 in
set_option maxRecDepth 10000 in
theorem g13 (db : List Lsa) (hl : db.length < 1034834473201) (ok : ∀ x ∈ db, okD x) (l : Lsa) (okl : okD l) (k : LKey) : CFun Try.prog 13 [.sl 15 (db.map encA) .sh, encA l, encY k] [] (.bool true) [] := by
  refine CFun.intro (tr := []) (fz := []) (n := 93) (rs := [.tmp 6]) Try.func13 rfl (by kernel_rfl) rfl rfl mixed (by kernel_rfl) (by simp) (by simp) ?_
  have h1 := fun H => (f32 db _ rfl (by omega)).up' H rfl rfl
  have h0 := fun H => f25.up' H rfl rfl
  simp
  refine ⟨_, _, .inl (by simpa using h1 _), by simp, ?_⟩
  by_cases e : chkD db = 0
  case neg =>
    simp [e]
    refine ⟨_, _, .inl (by simpa using h0 _), by simp, ?_⟩
    simp
  obtain ⟨v1, v2, v3⟩ := chkD_ok e
  have hokl : ∀ x ∈ db, okL x := fun x hx => okL_of (ok x hx)
  have h2 := fun H => (f26 db _ rfl (by omega) v3 hokl l (okL_of okl)).up' H rfl rfl
  by_cases e2 : (putD db l).2 = 0
  case neg =>
    have e3 := put_err e2
    rw [e3] at h2
    generalize (putD db l).2 = z at h2 e2
    simp [e]
    refine ⟨_, _, .inl (by simpa using h2 _), by simp, ?_⟩
    simp [e2]
    refine ⟨_, _, .inl (by simpa using h0 _), by simp, ?_⟩
    simp
  have hv := put_valid e e2
  obtain ⟨p1, p2, p3⟩ := put_ok v3 e2
  have hpl := put_len db l
  rw [e2] at h2
  rw [p1] at h2 hv hpl
  have hm : ∀ x ∈ putW l db, okD x := fun x hx => by
    rcases (putW_mem v3 x).1 hx with rfl | ⟨hx, _⟩
    · exact okl
    · exact ok x hx
  have hml : ∀ x ∈ putW l db, okL x := fun x hx => okL_of (hm x hx)
  have h3 := fun H => (c26 l.H).up' H rfl rfl
  have hke : encY (keyH l.H) = encY (keyA l) := rfl
  rw [hke] at h3
  have h4 := fun H => (f37 (putW l db) _ rfl (by omega) hml (keyA l)).up' H rfl rfl
  rw [get_put v3] at h4
  have h5 := fun H => (f32 (putW l db) _ rfl (by omega)).up' H rfl rfl
  rw [hv] at h5
  have h6 := fun H => (c20 l l (okP_of okl).1 (okP_of okl).2).up' H rfl rfl
  rw [sameB_self] at h6
  simp only [decide_true, Bool.true_and] at h6
  have h7 := fun H => (f40 (putW l db) _ rfl (by omega) hml (keyA l)).up' H rfl rfl
  rw [putW_drop v3] at h7
  have h8 := fun H => (f40 db _ rfl (by omega) hokl (keyA l)).up' H rfl rfl
  have hd : (dropD db (keyA l)).length ≤ db.length := List.length_filter_le _ _
  have h9 := fun H => (f28 (dropD db (keyA l)) (dropD db (keyA l)) _ _ rfl rfl (by omega) (fun x hx => okP_of (ok x (List.mem_filter.1 hx).1))).up' H rfl rfl
  simp only [decide_true] at h9
  have h10 := fun H => (f37 db _ rfl (by omega) hokl k).up' H rfl rfl
  have h11 := fun H => (f37 (putW l db) _ rfl (by omega) hml k).up' H rfl rfl
  have hgo := fun (hk : k ≠ keyA l) => get_other v3 (l := l) hk
  have hg := get_in okP0 (fun x hx => okP_of (ok x hx)) k
  have h12 := fun H => (c20 (getD_ db k).1 (getD_ db k).1 hg.1 hg.2).up' H rfl rfl
  rw [sameB_self] at h12
  simp only [decide_true, Bool.true_and] at h12
  clear v1 v2 v3 hv hpl hm hml hd hg hl ok okl hokl p1 p2 p3
  generalize putW l db = a at h2 h4 h5 h7 h11 hgo
  generalize dropD db (keyA l) = d at h7 h8 h9
  generalize keyA l = o at h3 h4 h7 h8 hgo
  simp [e]
  refine ⟨_, _, .inl (by simpa using h2 _), by simp, ?_⟩
  simp
  refine ⟨_, _, .inl (by simpa using h3 _), by simp, ?_⟩
  simp
  refine ⟨_, _, .inl (by simpa using h4 _), by simp, ?_⟩
  simp
  refine ⟨_, _, .inl (by simpa using h5 _), by simp, ?_⟩
  simp
  refine ⟨_, _, .inl (by simpa using h6 _), by simp, ?_⟩
  simp
  refine ⟨_, _, .inl (by simpa using h7 _), by simp, ?_⟩
  simp
  refine ⟨_, _, .inl (by simpa using h8 _), by simp, ?_⟩
  simp
  refine ⟨_, _, .inl (by simpa using h9 _), by simp, ?_⟩
  by_cases hk : k = o
  · subst hk
    simp
    refine ⟨_, _, .inl (by simpa using h0 _), by simp, ?_⟩
    simp
  · have hk2 : ¬ (k.Ty = o.Ty ∧ k.ID = o.ID ∧ k.Len = o.Len ∧ k.Router = o.Router) := by
      rintro ⟨r1, r2, r3, r4⟩
      cases k; cases o; simp_all
    rw [hgo hk] at h11
    clear hgo
    generalize getD_ db k = g at h10 h11 h12
    simp [hk2]
    refine ⟨_, _, .inl (by simpa using h10 _), by simp, ?_⟩
    simp
    refine ⟨_, _, .inl (by simpa using h11 _), by simp, ?_⟩
    simp
    refine ⟨_, _, .inl (by simpa using h12 _), by simp, ?_⟩
    simp
    refine ⟨_, _, .inl (by simpa using h0 _), by simp, ?_⟩
    simp
end Go.Proofs.Ytmgkemffbmfmpaa

namespace Go.Proofs.Ytmgkemffbmfmpaa
open Go Go.Am

def apart (a b : Lsa) : Prop := ¬ (keyA a = keyA b ∧ a.H.Seq = b.H.Seq)
theorem pw_eq : ∀ {l : List Lsa}, l.Pairwise apart → ∀ {x y : Lsa}, x ∈ l → y ∈ l → keyA x = keyA y → x.H.Seq = y.H.Seq → x = y
  | [], _, _, _, hx, _, _, _ => by cases hx
  | z :: zs, h, x, y, hx, hy, e1, e2 => by
    rw [List.pairwise_cons] at h
    rcases List.mem_cons.1 hx with ex | hx'
    · rcases List.mem_cons.1 hy with ey | hy'
      · rw [ex, ey]
      · exact (h.1 y hy' ⟨by rw [← ex]; exact e1, by rw [← ex]; exact e2⟩).elim
    · rcases List.mem_cons.1 hy with ey | hy'
      · exact (h.1 x hx' ⟨by rw [← ey]; exact e1.symm, by rw [← ey]; exact e2.symm⟩).elim
      · exact pw_eq h.2 hx' hy' e1 e2
def dbs (l : List Lsa) (i : Nat) : List Lsa := (l.take i).foldl stepN []
theorem dbs_next {l : List Lsa} {i : Nat} {x : Lsa} (h : l[i]? = some x) : dbs l (i + 1) = stepN (dbs l i) x := by
  have ht : l.take (i + 1) = l.take i ++ [x] := by rw [List.take_add_one, h]; rfl
  simp only [dbs, ht, List.foldl_append, List.foldl_cons, List.foldl_nil]
theorem seen_dbs {l : List Lsa} (h : l.Pairwise apart) : ∀ i, i ≤ l.length → SeenN (l.take i) (dbs l i) := by
  intro i
  induction i with
  | zero => intro _; exact SeenN.nil
  | succ i ih =>
    intro hi
    obtain ⟨x, hx, _⟩ := get_drop (l := l) (i := i) (by omega)
    have ht : l.take (i + 1) = l.take i ++ [x] := by rw [List.take_add_one, hx]; rfl
    have hp : (l.take i ++ [x]).Pairwise apart := by rw [← ht]; exact h.sublist (List.take_sublist _ _)
    rw [dbs_next hx, ht]
    refine (ih (by omega)).step fun y hy => ?_
    exact (List.pairwise_append.1 hp).2.2 y hy x (by simp)
-- LsdbNewest
set_option maxHeartbeats 4000000 in
set_option maxRecDepth 10000 in
theorem g9 (l : List Lsa) (n : Nat) (hn : l.length = n) (hl : n < 1034834473201) (ok : ∀ x ∈ l, okD x) : CFun Try.prog 9 [.sl 15 (l.map encA) .sh] [] (.bool true) [] := by
  refine CFun.intro (tr := []) (fz := []) (n := 156) (rs := [.tmp 2]) Try.func9 rfl (by kernel_rfl) rfl rfl mixed (by kernel_rfl) (by simp) (by simp) ?_
  have h0 := fun H => f25.up' H rfl rfl
  by_cases e : 100 < n
  · have e' : (100 : Int) < n := by omega
    simp [hn, e']
    refine ⟨_, _, .inl (by simpa using h0 _), by simp, ?_⟩
    simp
  have e' : ¬ (100 : Int) < n := by omega
  simp [hn, e']
  refine LoopK.intro (tr := []) mixed (by kernel_rfl) (fun i : Nat => [(0, .sl 15 (l.map encA) .sh), (17, .int .i64 n), (18, .int .i64 i)]) (fun _ => []) (fun i => i ≤ n ∧ (∀ x ∈ l.take i, sealE x = 0) ∧ (l.take i).Pairwise apart) (fun i => n - i) 0 ?_ ?_ ?_
  · simp
  · simp
  rintro i ⟨h1, h2, h3⟩
  by_cases hi : i < n
  · obtain ⟨x, hx, _⟩ := get_drop (l := l) (i := i) (by omega)
    have ht : l.take (i + 1) = l.take i ++ [x] := by rw [List.take_add_one, hx]; rfl
    have okx := ok x (List.mem_of_getElem? hx)
    have w1 : IntKind.i64.wrap ((i : Int) + 1) = i + 1 := wrap_in (by omega)
    have h33 := fun H => (c14 x okx.1).up' H rfl rfl
    have hse := encL_cases x
    simp [hi, hn, hx, gE hx]
    refine ⟨_, _, .inl (by simpa using h33 _), by simp, ?_⟩
    by_cases e0 : chkA x = 0
    case neg =>
      simp [e0]
      refine ⟨_, _, .inl (by simpa using h0 _), by simp, ?_⟩
      simp
    have hlen := chkA_len e0
    have h34 := fun H => (c22 x hlen.1 hlen.2).up' H rfl rfl
    simp [e0, hi, hn, hx, gE hx]
    refine ⟨_, _, .inl (by simpa using h34 _), by simp, ?_⟩
    by_cases e1 : x.H.Sum = sumA x
    case neg =>
      simp [e1]
      refine ⟨_, _, .inl (by simpa using h0 _), by simp, ?_⟩
      simp
    rw [if_neg (by simpa using e0), if_pos e1] at hse
    simp [e1]
    refine LoopK.intro (tr := []) mixed (by kernel_rfl) (fun k : Nat => [(0, .sl 15 (l.map encA) .sh), (3, .int .i64 i), (17, .int .i64 n), (18, .int .i64 i), (36, .int .i64 i), (37, .int .i64 k)]) (fun _ => []) (fun k => k ≤ i ∧ ∀ y ∈ l.take k, apart y x) (fun k => i - k) 0 ?_ ?_ ?_
    · simp
    · simp
    rintro k ⟨k1, k2⟩
    by_cases hk : k < i
    · obtain ⟨y, hy, _⟩ := get_drop (l := l) (i := k) (by omega)
      have htk : l.take (k + 1) = l.take k ++ [y] := by rw [List.take_add_one, hy]; rfl
      have w2 : IntKind.i64.wrap ((k : Int) + 1) = k + 1 := wrap_in (by omega)
      have hkn : k < n := by omega
      have a1 := fun H => (c26 y.H).up' H rfl rfl
      have a2 := fun H => (c26 x.H).up' H rfl rfl
      have f1 : keyH y.H = keyA y := rfl
      have f2 : keyH x.H = keyA x := rfl
      rw [f1] at a1
      rw [f2] at a2
      have hap : ¬ (keyA y = keyA x ∧ y.H.Seq = x.H.Seq) → ∀ z ∈ l.take (k + 1), apart z x := by
        intro h z hz
        rw [htk, List.mem_append, List.mem_singleton] at hz
        rcases hz with hz | rfl
        · exact k2 z hz
        · exact h
      clear k2 h2 h3 h33 h34 hse
      generalize keyA y = p at a1 hap
      generalize keyA x = q at a2 hap
      simp [hk, hkn, hi, hn, hx, hy, gE hx, gE hy]
      refine ⟨_, _, .inl (by simpa using a1 _), by simp, ?_⟩
      simp [hk, hkn, hi, hn, hx, hy, gE hx, gE hy]
      refine ⟨_, _, .inl (by simpa using a2 _), by simp, ?_⟩
      by_cases hpq : p = q
      · subst hpq
        by_cases hss : y.H.Seq = x.H.Seq
        · simp [hk, hkn, hi, hn, hx, hy, gE hx, gE hy, hss]
          refine ⟨_, _, .inl (by simpa using h0 _), by simp, ?_⟩
          simp
        · simp [hk, hkn, hi, hn, hx, hy, gE hx, gE hy, hss, w2]
          exact ⟨k + 1, ⟨by omega, hap (by simp [hss])⟩, by omega, by simp⟩
      · have hk2 : ¬ (p.Ty = q.Ty ∧ p.ID = q.ID ∧ p.Len = q.Len ∧ p.Router = q.Router) := by
          rintro ⟨r1, r2, r3, r4⟩
          cases p; cases q; simp_all
        simp [hk, hkn, hi, hn, hx, hy, gE hx, gE hy, hk2, w2]
        exact ⟨k + 1, ⟨by omega, hap (by simp [hpq])⟩, by omega, by simp⟩
    · have : k = i := by omega
      subst this
      simp [w1]
      refine ⟨k + 1, ⟨by omega, ?_, ?_⟩, by omega, by simp⟩
      · intro z hz
        rw [ht, List.mem_append, List.mem_singleton] at hz
        rcases hz with hz | rfl
        · exact h2 z hz
        · exact hse
      · rw [ht, List.pairwise_append]
        refine ⟨h3, by simp, fun z hz y hy => ?_⟩
        obtain rfl := List.mem_singleton.1 hy
        exact k2 z hz
  have hin : i = n := by omega
  subst hin
  have htl : l.take i = l := List.take_of_length_le (by omega)
  rw [htl] at h2 h3
  have hS := seen_dbs h3
  simp
  refine LoopK.intro (tr := []) mixed (by kernel_rfl) (fun j : Nat => [(0, .sl 15 (l.map encA) .sh), (5, .sl 15 ((dbs l j).map encA) .sh), (73, .int .i64 i), (74, .int .i64 j)]) (fun _ => []) (fun j => j ≤ i) (fun j => i - j) 0 ?_ ?_ ?_
  · simp
  · simp [dbs, hn]
  rintro j j1
  have hSj := hS j (by omega)
  have hdl := hSj.len
  have hdm : ∀ x ∈ dbs l j, x ∈ l := fun x hx => List.mem_of_mem_take (hSj.mem x hx)
  have hdo : ∀ x ∈ dbs l j, okL x := fun x hx => okL_of (ok x (hdm x hx))
  have hdl2 : (dbs l j).length ≤ 100 := by
    have : (l.take j).length ≤ j := by simp; omega
    omega
  by_cases hj : j < i
  · obtain ⟨x, hx, _⟩ := get_drop (l := l) (i := j) (by omega)
    have okx := ok x (List.mem_of_getElem? hx)
    have w1 : IntKind.i64.wrap ((j : Int) + 1) = j + 1 := wrap_in (by omega)
    have hsx := h2 x (List.mem_of_getElem? hx)
    have hnx := dbs_next hx
    have a1 := fun H => (f36 (dbs l j) _ rfl (by omega) hdo x.H).up' H rfl rfl
    have hput : putD (dbs l j) x = (putW x (dbs l j), 0) := by
      have : ¬ (fndD (dbs l j) (keyA x) = false ∧ 2000 ≤ (dbs l j).length) := fun h => by omega
      simp only [putD, hsx, putW_R x hSj.asc]
      simp [this]
    have a2 := fun H => (f26 (dbs l j) _ rfl (by omega) hSj.asc hdo x (okL_of okx)).up' H rfl rfl
    rw [hput] at a2
    clear hput hdl hdl2 hdo hdm hSj hS h2 h3 hsx ok
    generalize dbs l j = d at a1 a2 hnx ⊢
    simp [hj, hn, hx, gE hx]
    refine ⟨_, _, .inl (by simpa using a1 _), by simp, ?_⟩
    by_cases hc : cmpD d x.H = 1
    · have hst : stepN d x = putW x d := by simp [stepN, hc]
      simp [hc, hj, hn, hx, gE hx]
      refine ⟨_, _, .inl (by simpa using a2 _), by simp, ?_⟩
      simp [w1]
      exact ⟨j + 1, by omega, by omega, by simp [hnx, hst]⟩
    · have hst : stepN d x = d := by simp [stepN, hc]
      simp [hc, w1]
      exact ⟨j + 1, by omega, by omega, by simp [hnx, hst]⟩
  have hjn : j = i := by omega
  subst hjn
  rw [htl] at hSj
  have hchk : chkD (dbs l j) = 0 := chkD_of (by omega) (fun x hx => h2 x (hdm x hx)) hSj.asc
  have a5 := fun H => (f32 (dbs l j) _ rfl (by omega)).up' H rfl rfl
  rw [hchk] at a5
  have a6 : ∀ x ∈ l, ∃ y, getD_ (dbs l j) (keyA x) = (y, true) ∧ x.H.Seq ≤ y.H.Seq ∧ (x.H.Seq = y.H.Seq → y = x) := by
    intro x hx
    obtain ⟨y, hy, e1, e2⟩ := hSj.cov x hx
    refine ⟨y, ?_, e2, fun e3 => pw_eq h3 (hdm y hy) hx e1 e3.symm⟩
    have := (find_mem hSj.asc).2 ⟨hy, e1⟩
    simp [getD_, this]
  have a7 := fun k => f37 (dbs l j) _ rfl (by omega) hdo k
  clear hS hSj hdm hdo hchk h2 h3 hdl hdl2
  generalize dbs l j = d at a5 a6 a7 ⊢
  simp
  refine LoopK.intro (tr := []) mixed (by kernel_rfl) (fun k : Nat => [(0, .sl 15 (l.map encA) .sh), (5, .sl 15 (d.map encA) .sh), (99, .int .i64 j), (100, .int .i64 k)]) (fun _ => []) (fun k => k ≤ j) (fun k => j - k) 0 ?_ ?_ ?_
  · simp
  · simp [hn]
  rintro k k1
  by_cases hk : k < j
  · obtain ⟨x, hx, _⟩ := get_drop (l := l) (i := k) (by omega)
    have okx := ok x (List.mem_of_getElem? hx)
    have w1 : IntKind.i64.wrap ((k : Int) + 1) = k + 1 := wrap_in (by omega)
    have a1 := fun H => (c26 x.H).up' H rfl rfl
    have f2 : keyH x.H = keyA x := rfl
    rw [f2] at a1
    obtain ⟨y, y1, y2, y3⟩ := a6 x (List.mem_of_getElem? hx)
    have a2 := fun H => (a7 (keyA x)).up' H rfl rfl
    rw [y1] at a2
    have a3 := fun H => (c20 x x (okP_of okx).1 (okP_of okx).2).up' H rfl rfl
    rw [sameB_self] at a3
    simp only [decide_true, Bool.true_and] at a3
    clear a6 a7 y1 okx ok
    generalize keyA x = q at a1 a2
    simp [hk, hn, hx, gE hx]
    refine ⟨_, _, .inl (by simpa using a1 _), by simp, ?_⟩
    simp [hk, hn, hx, gE hx]
    refine ⟨_, _, .inl (by simpa using a2 _), by simp, ?_⟩
    by_cases hs : x.H.Seq = y.H.Seq
    · obtain rfl := y3 hs
      simp [hk, hn, hx, gE hx]
      refine ⟨_, _, .inl (by simpa using a3 _), by simp, ?_⟩
      simp [w1]
      exact ⟨k + 1, by omega, by omega, by simp⟩
    · have hs1 : ¬ y.H.Seq < x.H.Seq := by omega
      have hs2 : ¬ y.H.Seq = x.H.Seq := fun e => hs e.symm
      simp [hk, hn, hx, gE hx, hs1, hs2, w1]
      exact ⟨k + 1, by omega, by omega, by simp⟩
  · simp [hk]
    refine ⟨_, _, .inl (by simpa using a5 _), by simp, ?_⟩
    simp
    refine ⟨_, _, .inl (by simpa using h0 _), by simp, ?_⟩
    simp
end Go.Proofs.Ytmgkemffbmfmpaa

namespace Go.Proofs.Ytmgkemffbmfmpaa
open Go Go.Am

/-! What arguments bring. -/
def tyD : Bool × List CTy := (false, [.sl true 136 csA])
def tyK : Bool × List CTy := (false, [.int .u32])
theorem rd_AD {x : AVal} (h : RdA tyA x) : ∃ l : Lsa, x = encA l ∧ okD l := by
  obtain ⟨cs, h1, h2⟩ := h
  have h3 : Rds (csA ++ []) cs := by rw [List.append_nil]; exact h2
  obtain ⟨l, r, rfl, ok, k⟩ := dec_A h3
  obtain rfl := Rds_nil k
  refine ⟨l, ?_, ok⟩
  rw [if_pos (show tyA.1 = true from rfl), List.append_nil] at h1
  exact h1
theorem rd_D {x : AVal} (h : RdA tyD x) : ∃ l : List Lsa, x = .sl 15 (l.map encA) .sh ∧ (∀ a ∈ l, okD a) ∧ l.length * 136 ≤ 140737488351232 := by
  obtain ⟨cs, h1, h2⟩ := h
  obtain ⟨l, r, rfl, k, z⟩ := Rds_sl (enc := fun x : { x : Lsa // okD x } => encA x.1) h2 (fun y cs e h => by
    obtain ⟨a, ha, oka⟩ := rd_AD (x := y) ⟨cs, e, h⟩
    exact ⟨⟨a, oka⟩, ha⟩)
  obtain rfl := Rds_nil k
  simp [tyD] at h1
  refine ⟨l.map (·.1), ?_, fun a ha => ?_, by simpa [reachBytes] using z⟩
  · rw [← h1]
    simp [csA, csH, Function.comp_def]
  · obtain ⟨y, _, rfl⟩ := List.mem_map.1 ha
    exact y.2
theorem rd_k {x : AVal} (h : RdA tyK x) : ∃ n : Int, x = .int .u32 n ∧ inW n := by
  obtain ⟨cs, h1, h⟩ := h
  obtain ⟨a1, r, rfl, h, w1⟩ := Rds_int h
  obtain rfl := Rds_nil h
  simp [tyK] at h1
  exact ⟨a1, h1.symm, wf_u32 w1⟩
end Go.Proofs.Ytmgkemffbmfmpaa

namespace Go.Proofs.Ytmgkemffbmfmpaa
end Go.Proofs.Ytmgkemffbmfmpaa

namespace Go.Proofs.Ytmgkemffbmfmpaa
open Go Go.Am

/-! Packets. -/
structure Hel where
  Len : Int
  Hello : Int
  Dead : Int
  Pri : Int
  DR : Int
  BDR : Int
  Seen : List Int
  deriving DecidableEq
@[simp] def cellsE (h : Hel) : List AVal := [.int .i64 h.Len, .int .i64 h.Hello, .int .i64 h.Dead, .int .i64 h.Pri, .int .u32 h.DR, .int .u32 h.BDR, .sl 1 (h.Seen.map enc32) .sh]
@[simp] def encE (h : Hel) : AVal := .agg (cellsE h)
structure Pkt where
  Kind : Int
  Router : Int
  Area : Int
  Addr : Int
  E : Hel
  Seq : Int
  Init : Bool
  More : Bool
  Master : Bool
  Heads : List Hdr
  Keys : List LKey
  Lsas : List Lsa
  deriving DecidableEq
@[simp] def cellsPk (p : Pkt) : List AVal := [.int .i64 p.Kind, .int .u32 p.Router, .int .u32 p.Area, .int .u32 p.Addr,
  .int .i64 p.E.Len, .int .i64 p.E.Hello, .int .i64 p.E.Dead, .int .i64 p.E.Pri, .int .u32 p.E.DR, .int .u32 p.E.BDR, .sl 1 (p.E.Seen.map enc32) .sh,
  .int .i64 p.Seq, .bool p.Init, .bool p.More, .bool p.Master, .sl 7 (p.Heads.map encH) .sh, .sl 4 (p.Keys.map encY) .sh, .sl 15 (p.Lsas.map encA) .sh]
@[simp] def encPk (p : Pkt) : AVal := .agg (cellsPk p)
def hel0 : Hel := ⟨0, 0, 0, 0, 0, 0, []⟩
def pkt0 : Pkt := ⟨0, 0, 0, 0, hel0, 0, false, false, false, [], [], []⟩
/-- The first error of rows of any kind. -/
def rowsG {α : Type} (chk : α → Int) (key : α → LKey) : Option α → List α → Int
  | _, [] => 0
  | p, x :: xs => if chk x ≠ 0 then chk x else if (match p with | some y => decide (0 ≤ cmpY (key y) (key x)) | none => false) = true then 16 else rowsG chk key (some x) xs
def listG {α : Type} (chk : α → Int) (key : α → LKey) (l : List α) : Int := if 64 < l.length then 4 else rowsG chk key none l
def prevG {α : Type} (l : List α) : Nat → Option α
  | 0 => none
  | i + 1 => l[i]?
theorem rowsG_E : ∀ (l : List Lsa) (p : Option Lsa), rowsG sealE keyA p l = rowsE p l
  | [], p => by cases p <;> rfl
  | x :: xs, p => by
    cases p <;> simp only [rowsG, rowsE, rowsG_E xs (some x)]
def chkY (k : LKey) : Int := if inR k.Ty 1 5 = false then 15 else if k.Router = 0 ∨ inR k.Len 0 32 = false then 5 else 0
def seenE : Int → List Int → Int
  | _, [] => 0
  | z, x :: xs => if x ≤ z then 16 else seenE x xs
def chkE (h : Hel) : Int := if inR h.Len 0 32 = false ∨ inR h.Hello 1 65535 = false ∨ inR h.Dead 1 65535 = false ∨ inR h.Pri 0 255 = false then 5 else if 64 < h.Seen.length then 4 else seenE 0 h.Seen
def forP (p : Pkt) : Bool :=
  (decide (p.Kind ≠ 1) && !decide (p.E = hel0)) || (decide (p.Kind ≠ 2) && (decide (p.Seq ≠ 0) || p.Init || p.More || p.Master)) || (decide (p.Kind ≠ 3) && !decide (p.Keys = [])) || (decide (p.Kind ≠ 4) && !decide (p.Lsas = [])) ||
  (decide (p.Kind ≠ 2) && decide (p.Kind ≠ 5) && !decide (p.Heads = []))
def chkP (p : Pkt) : Int :=
  if inR p.Kind 1 5 = false then 15 else if p.Router = 0 then 5 else if forP p = true then 1
  else if p.Kind = 1 then chkE p.E else if p.Kind = 3 then listG chkY id p.Keys else if p.Kind = 4 then listG sealE keyA p.Lsas
  else if p.Kind = 2 ∧ inR p.Seq 0 2147483647 = false then 5 else listG chkH keyH p.Heads
end Go.Proofs.Ytmgkemffbmfmpaa

namespace Go.Proofs.Ytmgkemffbmfmpaa
open Go Go.Am

theorem ehL_snd (h : Hdr) : (ehL h).2 = chkH h := by
  unfold ehL
  split
  · rfl
  · rename_i h1
    exact (Decidable.not_not.1 h1).symm
theorem f51 (n lo hi : Int) : CFun Try.prog 51 [.int .i64 n, .int .i64 lo, .int .i64 hi] [] (.bool (inR n lo hi)) [] := by
  refine CFun.intro (tr := []) (fz := []) (n := 15) (rs := [.tmp 6]) Try.func51 rfl (by kernel_rfl) rfl rfl mixed (by kernel_rfl) (by simp) (by simp) ?_
  by_cases h : lo ≤ n <;> simp [h, inR]
theorem f63 (n lo hi : Int) : CFun Try.prog 63 [.int .i64 n, .int .i64 lo, .int .i64 hi] [] (.bool (inR n lo hi)) [] := by
  refine CFun.intro (tr := []) (fz := []) (n := 15) (rs := [.tmp 6]) Try.func63 rfl (by kernel_rfl) rfl rfl mixed (by kernel_rfl) (by simp) (by simp) ?_
  by_cases h : lo ≤ n <;> simp [h, inR]
set_option maxHeartbeats 1000000 in
set_option maxRecDepth 10000 in
theorem f55 (k : LKey) : CFun Try.prog 55 [encY k] [] (.int .i64 (chkY k)) [] := by
  refine CFun.intro (tr := []) (fz := []) (n := 18) (rs := [.tmp 2]) Try.func55 rfl (by kernel_rfl) rfl rfl mixed (by kernel_rfl) (by simp) (by simp) ?_
  have h1 := fun H => (f51 k.Ty 1 5).up' H rfl rfl
  have h2 := fun H => (f51 k.Len 0 32).up' H rfl rfl
  simp only [chkY]
  simp
  refine ⟨_, _, .inl (by simpa using h1 _), by simp, ?_⟩
  cases inR k.Ty 1 5
  · simp
  by_cases e : k.Router = 0
  · simp [e]
  simp [e]
  refine ⟨_, _, .inl (by simpa using h2 _), by simp, ?_⟩
  cases inR k.Len 0 32 <;> simp
theorem f56 (k : LKey) : CFun Try.prog 56 [encY k] [] (encY (id k)) [] := by
  refine CFun.intro (tr := []) (fz := []) (n := 4) (rs := [.cell 2 60]) Try.func56 rfl (by kernel_rfl) rfl rfl mixed (by kernel_rfl) (by simp) (by simp) ?_
  simp
set_option maxHeartbeats 1000000 in
set_option maxRecDepth 10000 in
theorem f58 (l : Lsa) : CFun Try.prog 58 [encA l] [] (.int .i64 (sealE l)) [] := by
  refine CFun.intro (tr := []) (fz := []) (n := 11) (rs := [.tmp 2]) Try.func58 rfl (by kernel_rfl) rfl rfl mixed (by kernel_rfl) (by simp) (by simp) ?_
  have h1 := fun H => (c21 l).up' H rfl rfl
  simp
  refine ⟨_, _, .inl (h1 _), by simp, ?_⟩
  simp [encL_snd]
set_option maxHeartbeats 1000000 in
set_option maxRecDepth 10000 in
theorem f59 (l : Lsa) : CFun Try.prog 59 [encA l] [] (encY (keyA l)) [] := by
  refine CFun.intro (tr := []) (fz := []) (n := 6) (rs := [.cell 2 60]) Try.func59 rfl (by kernel_rfl) rfl rfl mixed (by kernel_rfl) (by simp) (by simp) ?_
  have h1 := fun H => (c25 l.H).up' H rfl rfl
  have e : keyH l.H = keyA l := rfl
  rw [e] at h1
  generalize keyA l = k at h1 ⊢
  simp
  refine ⟨_, _, .inl (by simpa using h1 _), by simp, ?_⟩
  simp
set_option maxHeartbeats 1000000 in
set_option maxRecDepth 10000 in
theorem f61 (h : Hdr) : CFun Try.prog 61 [encH h] [] (.int .i64 (chkH h)) [] := by
  refine CFun.intro (tr := []) (fz := []) (n := 11) (rs := [.tmp 2]) Try.func61 rfl (by kernel_rfl) rfl rfl mixed (by kernel_rfl) (by simp) (by simp) ?_
  have h1 := fun H => (c33 h).up' H rfl rfl
  simp
  refine ⟨_, _, .inl (h1 _), by simp, ?_⟩
  simp [ehL_snd]

set_option maxHeartbeats 2000000 in
set_option maxRecDepth 10000 in
theorem f54 (l : List LKey) (n : Nat) (hn : l.length = n) (hlen : n < 1099511627776000) : CFun Try.prog 54 [.sl 4 (l.map encY) .sh, .fn 55 [] [], .fn 56 [] []] [] (.int .i64 (listG chkY id l)) [] := by
  refine CFun.intro (tr := []) (fz := []) (n := 43) (rs := [.tmp 6]) Try.func54 rfl (by kernel_rfl) rfl rfl mixed (by kernel_rfl) (by simp) (by simp) ?_
  unfold listG
  by_cases h64 : 64 < n
  · have h64' : (64 : Int) < n := by omega
    simp [hn, h64, h64']
  have h64' : ¬ (64 : Int) < n := by omega
  simp [hn, h64, h64']
  refine LoopK.intro (tr := []) mixed (by kernel_rfl) (fun i : Nat => [(0, .sl 4 (l.map encY) .sh), (1, .fn 55 [] []), (2, .fn 56 [] []), (13, .sl 4 (l.map encY) .sh), (14, .int .i64 n), (15, .int .i64 i)]) (fun _ => []) (fun i => i ≤ n ∧ rowsG chkY id none l = rowsG chkY id (prevG l i) (l.drop i)) (fun i => n - i) 0 ?_ ?_ ?_
  · simp [prevG]
  · simp [low]
  · rintro i ⟨h1, h2⟩
    by_cases hi : i < n
    · obtain ⟨x, hx, hd⟩ := get_drop (l := l) (i := i) (by omega)
      rw [hd] at h2
      have w1 : IntKind.i64.wrap ((i : Int) + 1) = i + 1 := wrap_in (by omega)
      have hc := fun H => (f55 x).up' H rfl rfl
      have hK := fun H => (f56 x).up' H rfl rfl
      simp only [rowsG] at h2
      clear hd
      simp [hi, hn, hx, gE hx]
      refine ⟨_, _, .inl (by simpa [cargs] using hc _), by simp, ?_⟩
      by_cases e0 : chkY x = 0
      case neg =>
        rw [if_pos e0] at h2
        simp [e0, h2]
      rw [if_neg (by simpa using e0)] at h2
      cases i with
      | zero =>
        have w0 : IntKind.i64.wrap 1 = 1 := by decide
        simp only [prevG] at h2
        simp [e0, w0]
        exact ⟨1, ⟨by omega, by simpa [prevG, hx] using h2⟩, by omega, by simp [low]⟩
      | succ j =>
        obtain ⟨q, hq, _⟩ := get_drop (l := l) (i := j) (by omega)
        simp only [prevG, hq] at h2
        have w2 : IntKind.i64.wrap (j : Int) = j := wrap_in (by omega)
        have h0 : (0 : Int) < ((j + 1 : Nat) : Int) := by omega
        have hjn : j < n := by omega
        have hKq := fun H => (f56 q).up' H rfl rfl
        have hC := fun H => (c27 (id q) (id x)).up' H rfl rfl
        generalize ekq : id q = kq at hKq hC h2
        generalize ekx : id x = kx at hK hC h2
        simp only [Int.natCast_add, Int.natCast_one] at w1 h0
        simp [e0, w2, h0, hn, hq, gE hq, hjn, hx, gE hx, hi]
        refine ⟨_, _, .inl (by simpa [cargs] using hKq _), by simp, ?_⟩
        simp
        refine ⟨_, _, .inl (by simpa [cargs] using hK _), by simp, ?_⟩
        simp
        refine ⟨_, _, .inl (by simpa using hC _), by simp, ?_⟩
        by_cases ho : 0 ≤ cmpY kq kx
        · simp [ho] at h2
          simp [ho, h2]
        · simp [ho] at h2
          have w3 : IntKind.i64.wrap ((j : Int) + 2) = j + 2 := wrap_in (by omega)
          simp [ho, w1, w3]
          exact ⟨j + 1 + 1, ⟨by omega, by simpa [prevG, hx] using h2⟩, by omega, by simp [low]⟩
    · have e : l.drop i = [] := List.drop_of_length_le (by omega)
      rw [e] at h2
      simp [rowsG] at h2
      simp [hi, hn, h2]


set_option maxHeartbeats 2000000 in
set_option maxRecDepth 10000 in
theorem f57 (l : List Lsa) (n : Nat) (hn : l.length = n) (hlen : n < 1099511627776000) : CFun Try.prog 57 [.sl 15 (l.map encA) .sh, .fn 58 [] [], .fn 59 [] []] [] (.int .i64 (listG sealE keyA l)) [] := by
  refine CFun.intro (tr := []) (fz := []) (n := 43) (rs := [.tmp 6]) Try.func57 rfl (by kernel_rfl) rfl rfl mixed (by kernel_rfl) (by simp) (by simp) ?_
  unfold listG
  by_cases h64 : 64 < n
  · have h64' : (64 : Int) < n := by omega
    simp [hn, h64, h64']
  have h64' : ¬ (64 : Int) < n := by omega
  simp [hn, h64, h64']
  refine LoopK.intro (tr := []) mixed (by kernel_rfl) (fun i : Nat => [(0, .sl 15 (l.map encA) .sh), (1, .fn 58 [] []), (2, .fn 59 [] []), (13, .sl 15 (l.map encA) .sh), (14, .int .i64 n), (15, .int .i64 i)]) (fun _ => []) (fun i => i ≤ n ∧ rowsG sealE keyA none l = rowsG sealE keyA (prevG l i) (l.drop i)) (fun i => n - i) 0 ?_ ?_ ?_
  · simp [prevG]
  · simp [low]
  · rintro i ⟨h1, h2⟩
    by_cases hi : i < n
    · obtain ⟨x, hx, hd⟩ := get_drop (l := l) (i := i) (by omega)
      rw [hd] at h2
      have w1 : IntKind.i64.wrap ((i : Int) + 1) = i + 1 := wrap_in (by omega)
      have hc := fun H => (f58 x).up' H rfl rfl
      have hK := fun H => (f59 x).up' H rfl rfl
      simp only [rowsG] at h2
      clear hd
      simp [hi, hn, hx, gE hx]
      refine ⟨_, _, .inl (by simpa [cargs] using hc _), by simp, ?_⟩
      by_cases e0 : sealE x = 0
      case neg =>
        rw [if_pos e0] at h2
        simp [e0, h2]
      rw [if_neg (by simpa using e0)] at h2
      cases i with
      | zero =>
        have w0 : IntKind.i64.wrap 1 = 1 := by decide
        simp only [prevG] at h2
        simp [e0, w0]
        exact ⟨1, ⟨by omega, by simpa [prevG, hx] using h2⟩, by omega, by simp [low]⟩
      | succ j =>
        obtain ⟨q, hq, _⟩ := get_drop (l := l) (i := j) (by omega)
        simp only [prevG, hq] at h2
        have w2 : IntKind.i64.wrap (j : Int) = j := wrap_in (by omega)
        have h0 : (0 : Int) < ((j + 1 : Nat) : Int) := by omega
        have hjn : j < n := by omega
        have hKq := fun H => (f59 q).up' H rfl rfl
        have hC := fun H => (c27 (keyA q) (keyA x)).up' H rfl rfl
        generalize ekq : keyA q = kq at hKq hC h2
        generalize ekx : keyA x = kx at hK hC h2
        simp only [Int.natCast_add, Int.natCast_one] at w1 h0
        simp [e0, w2, h0, hn, hq, gE hq, hjn, hx, gE hx, hi]
        refine ⟨_, _, .inl (by simpa [cargs] using hKq _), by simp, ?_⟩
        simp
        refine ⟨_, _, .inl (by simpa [cargs] using hK _), by simp, ?_⟩
        simp
        refine ⟨_, _, .inl (by simpa using hC _), by simp, ?_⟩
        by_cases ho : 0 ≤ cmpY kq kx
        · simp [ho] at h2
          simp [ho, h2]
        · simp [ho] at h2
          have w3 : IntKind.i64.wrap ((j : Int) + 2) = j + 2 := wrap_in (by omega)
          simp [ho, w1, w3]
          exact ⟨j + 1 + 1, ⟨by omega, by simpa [prevG, hx] using h2⟩, by omega, by simp [low]⟩
    · have e : l.drop i = [] := List.drop_of_length_le (by omega)
      rw [e] at h2
      simp [rowsG] at h2
      simp [hi, hn, h2]


set_option maxHeartbeats 2000000 in
set_option maxRecDepth 10000 in
theorem f60 (l : List Hdr) (n : Nat) (hn : l.length = n) (hlen : n < 1099511627776000) : CFun Try.prog 60 [.sl 7 (l.map encH) .sh, .fn 61 [] [], .fn 62 [] []] [] (.int .i64 (listG chkH keyH l)) [] := by
  refine CFun.intro (tr := []) (fz := []) (n := 43) (rs := [.tmp 6]) Try.func60 rfl (by kernel_rfl) rfl rfl mixed (by kernel_rfl) (by simp) (by simp) ?_
  unfold listG
  by_cases h64 : 64 < n
  · have h64' : (64 : Int) < n := by omega
    simp [hn, h64, h64']
  have h64' : ¬ (64 : Int) < n := by omega
  simp [hn, h64, h64']
  refine LoopK.intro (tr := []) mixed (by kernel_rfl) (fun i : Nat => [(0, .sl 7 (l.map encH) .sh), (1, .fn 61 [] []), (2, .fn 62 [] []), (13, .sl 7 (l.map encH) .sh), (14, .int .i64 n), (15, .int .i64 i)]) (fun _ => []) (fun i => i ≤ n ∧ rowsG chkH keyH none l = rowsG chkH keyH (prevG l i) (l.drop i)) (fun i => n - i) 0 ?_ ?_ ?_
  · simp [prevG]
  · simp [low]
  · rintro i ⟨h1, h2⟩
    by_cases hi : i < n
    · obtain ⟨x, hx, hd⟩ := get_drop (l := l) (i := i) (by omega)
      rw [hd] at h2
      have w1 : IntKind.i64.wrap ((i : Int) + 1) = i + 1 := wrap_in (by omega)
      have hc := fun H => (f61 x).up' H rfl rfl
      have hK := fun H => (c25 x).up' H rfl rfl
      simp only [rowsG] at h2
      clear hd
      simp [hi, hn, hx, gE hx]
      refine ⟨_, _, .inl (by simpa [cargs] using hc _), by simp, ?_⟩
      by_cases e0 : chkH x = 0
      case neg =>
        rw [if_pos e0] at h2
        simp [e0, h2]
      rw [if_neg (by simpa using e0)] at h2
      cases i with
      | zero =>
        have w0 : IntKind.i64.wrap 1 = 1 := by decide
        simp only [prevG] at h2
        simp [e0, w0]
        exact ⟨1, ⟨by omega, by simpa [prevG, hx] using h2⟩, by omega, by simp [low]⟩
      | succ j =>
        obtain ⟨q, hq, _⟩ := get_drop (l := l) (i := j) (by omega)
        simp only [prevG, hq] at h2
        have w2 : IntKind.i64.wrap (j : Int) = j := wrap_in (by omega)
        have h0 : (0 : Int) < ((j + 1 : Nat) : Int) := by omega
        have hjn : j < n := by omega
        have hKq := fun H => (c25 q).up' H rfl rfl
        have hC := fun H => (c27 (keyH q) (keyH x)).up' H rfl rfl
        generalize ekq : keyH q = kq at hKq hC h2
        generalize ekx : keyH x = kx at hK hC h2
        simp only [Int.natCast_add, Int.natCast_one] at w1 h0
        simp [e0, w2, h0, hn, hq, gE hq, hjn, hx, gE hx, hi]
        refine ⟨_, _, .inl (by simpa [cargs] using hKq _), by simp, ?_⟩
        simp
        refine ⟨_, _, .inl (by simpa [cargs] using hK _), by simp, ?_⟩
        simp
        refine ⟨_, _, .inl (by simpa using hC _), by simp, ?_⟩
        by_cases ho : 0 ≤ cmpY kq kx
        · simp [ho] at h2
          simp [ho, h2]
        · simp [ho] at h2
          have w3 : IntKind.i64.wrap ((j : Int) + 2) = j + 2 := wrap_in (by omega)
          simp [ho, w1, w3]
          exact ⟨j + 1 + 1, ⟨by omega, by simpa [prevG, hx] using h2⟩, by omega, by simp [low]⟩
    · have e : l.drop i = [] := List.drop_of_length_le (by omega)
      rw [e] at h2
      simp [rowsG] at h2
      simp [hi, hn, h2]

end Go.Proofs.Ytmgkemffbmfmpaa
