/- The abstract machine, part twenty-eight: an empty row of the call's own that is given back is data with the right to grow. -/
import Derived.Test.YtgcnlmcpmocbhaaAmAA
namespace Go.Am
open Go

theorem CFun.ownRet {P : Program} {f : FuncId} {args : List AVal} {k : Nat} {cap : Option Nat} {cs : List AVal} (h : CFun P f args [] (.osl 0 0 0 cap k) [cs]) (hne : cs ≠ []) (hk : 0 < k) : CFun P f args [] (.sl k [] .own) [] := by
  refine ⟨h.1, fun G w cargs hs ht hr hz ha => (h.2 G w cargs hs ht hr hz ha).mono ?_⟩
  rintro e w' ⟨v, G', rfl, h1, h2, h3, h4, h5, h6⟩
  obtain ⟨c, T, b1, b2, b3, b4, b5⟩ := h2.box 0 cs rfl hne
  have hblk := (Array.getElem?_eq_some_iff.1 b1).1
  let G2 : Gh := ⟨G'.F, G'.r, fun b => if b = (G'.r 0).1 then some .ret else G'.K b⟩
  have hs2 : SR G2 [] w' := by
    refine ⟨h2.frz, fun id cs hid => by simp at hid, fun b hb => ?_⟩
    show (if b = (G'.r 0).1 then some Pos.ret else G'.K b) = none
    rw [if_neg (by omega)]
    exact h2.new b hb
  refine ⟨v, G2, rfl, ⟨h1.os, h1.tape, h1.output, h1.size, h1.rho, h1.mono, fun b hb hn => ?_⟩, hs2, ?_, ?_, fun b i => ?_, by simp⟩
  · obtain ⟨q1, q2, q3⟩ := h1.old b hb hn
    refine ⟨q1, ?_, q3⟩
    show (if b = (G'.r 0).1 then some Pos.ret else G'.K b) = _
    rw [if_neg]
    · exact q2
    · intro e
      rw [e, b3] at q2
      exact hn (.inl ⟨0, by rw [e]; exact q2.symm⟩)
  · cases h3 with
    | tree _ _ ht => cases ht
    | osl _ _ _ _ _ C hid hlc hcap hroom => exact .tree _ _ (.sl k [] .own ⟨(G'.r 0).1, 0, none⟩ 0 C (fun _ => undef) rfl hlc (fun e => (e rfl).elim) (fun e => (e rfl).elim) (by simp) (by simp) (by simp) (by simp) (by simp))
    | osl0 _ _ _ _ a hid hc =>
      cases a with
      | none => exact .tree _ _ (.slnil k .own)
      | some a => exact .tree _ _ (.sl k [] .own a 0 0 (fun _ => undef) rfl (Nat.le_refl _) (fun e => (e rfl).elim) (fun e => (e rfl).elim) (by simp) (by simp) (by simp) (by simp) (by simp))
  · intro k' xs a len cap' e1 e2 e3
    injection e1 with e1 e1'
    subst e1
    cases h3 with
    | tree _ _ ht => cases ht
    | osl _ _ _ _ _ C hid hlc hcap hroom =>
      injection e2 with e2 e4 e5
      injection e2 with e2
      subst e2 e4 e5
      refine ⟨if_pos rfl, rfl, hk, fun o _ => b4 o, c, T, b1, ?_⟩
      have := b2.2
      simp only [Nat.zero_add] at hroom ⊢
      omega
    | osl0 _ _ _ _ a hid hc =>
      injection e2 with e2 e4 e5
      omega
  · show (if b = (G'.r 0).1 then some Pos.ret else G'.K b) ≠ _
    split
    · simp
    · exact h5 b i
end Go.Am
