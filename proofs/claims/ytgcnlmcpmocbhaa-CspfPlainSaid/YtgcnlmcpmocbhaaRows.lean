/-
  No cell of these rows narrows 'for every input' (looked for: loops, veiled, ifaces, maps, wideKeys, modest, calm, conditions, laid).
  DERIVED. THE GIVEN ROWS OF THIS SEAT. 6 by the template 'for every input the law returns true; each argument reads behind the call as it read before'; 0 by the template 'total and deterministic' (their statements: YtgcnlmcpmocbhaaTotals.lean).
  GIVEN WITH THE SEED: the statements are not yours to turn. If you find one false, say at which input.
  Laid BY PROGRAM, IN A SANDBOX (cutbox-rows.mjs): the forced cells as the released guide's own fill.sh prints them over the translation d2b483d93b3a3b61… (all of the seat's roots in one cut). By AI agents, Wed Nov 11 2026. No macro, syntax, notation, axiom, sorry.
-/
import Derived.Test.YtgcnlmcpmocbhaaChecked
import GoSem.Claim
import GoSem.ClaimJoined
import GoSem.ClaimMapViews
import Derived.JoinedTies
import Derived.KernelRfl
namespace Go.Proofs.Ytgcnlmcpmocbhaa
/- THE CELL 'sum', in the pinned program and in every row, IS THE sha256 OF THE DUMP (.gsa) THAT YtgcnlmcpmocbhaaProg.lean LOADS. Nothing in Lean hashes anything: it is a label: what it is worth is what the hold of that sum in a sandbox is worth. -/
noncomputable def Try.pinned : Pinned := { name := "ytgcnlmcpmocbhaa", sum := "d2b483d93b3a3b610094b5f0927b1985ec4153fd5f025bf92e5625fd97edfe9f", checked := Try.checked }
namespace Rows
def none {H : Type} : Left H := { results := [], args := [] }

/-- 'routinglaw14.CspfChecks': WHATEVER THE INPUT: true; the input reads as it did. -/
def cspfChecksSpec : ChangeSpec := { name := "cspfChecks", fn := fun _ => fun
  | [d1, d2, d3] => { results := [.lit (.bool true)], args := [d1, d2, d3] }
  | _ => none }
def cspfChecksRow : OpenClaim := { program := "ytgcnlmcpmocbhaa", sum := "d2b483d93b3a3b610094b5f0927b1985ec4153fd5f025bf92e5625fd97edfe9f", func := "routing/routinglaw14.CspfChecks", spec := "cspfChecks", unfollowed := true, recurses := true, apart := false }
def CspfChecksSaid : Prop := cspfChecksRow.holds Try.pinned (OpenSpec.ofChange cspfChecksSpec)

/-- ITS FALSE NEIGHBOUR: 'it returns false'. Refute it at one input. -/
def cspfChecksWrong : ChangeSpec := { name := "cspfChecks", fn := fun _ => fun
  | [d1, d2, d3] => { results := [.lit (.bool false)], args := [d1, d2, d3] }
  | _ => none }
def CspfChecksWrongFalsely : Prop := cspfChecksRow.holds Try.pinned (OpenSpec.ofChange cspfChecksWrong)

/-- 'routinglaw14.CspfRoutes': WHATEVER THE INPUT: true; the input reads as it did. -/
def cspfRoutesSpec : ChangeSpec := { name := "cspfRoutes", fn := fun _ => fun
  | [d1, d2, d3, d4, d5] => { results := [.lit (.bool true)], args := [d1, d2, d3, d4, d5] }
  | _ => none }
def cspfRoutesRow : OpenClaim := { program := "ytgcnlmcpmocbhaa", sum := "d2b483d93b3a3b610094b5f0927b1985ec4153fd5f025bf92e5625fd97edfe9f", func := "routing/routinglaw14.CspfRoutes", spec := "cspfRoutes", unfollowed := true, recurses := true, apart := false }
def CspfRoutesSaid : Prop := cspfRoutesRow.holds Try.pinned (OpenSpec.ofChange cspfRoutesSpec)

/-- ITS FALSE NEIGHBOUR: 'it returns false'. Refute it at one input. -/
def cspfRoutesWrong : ChangeSpec := { name := "cspfRoutes", fn := fun _ => fun
  | [d1, d2, d3, d4, d5] => { results := [.lit (.bool false)], args := [d1, d2, d3, d4, d5] }
  | _ => none }
def CspfRoutesWrongFalsely : Prop := cspfRoutesRow.holds Try.pinned (OpenSpec.ofChange cspfRoutesWrong)

/-- 'routinglaw14.CspfFits': WHATEVER THE INPUT: true; the input reads as it did. -/
def cspfFitsSpec : ChangeSpec := { name := "cspfFits", fn := fun _ => fun
  | [d1, d2, d3, d4] => { results := [.lit (.bool true)], args := [d1, d2, d3, d4] }
  | _ => none }
def cspfFitsRow : OpenClaim := { program := "ytgcnlmcpmocbhaa", sum := "d2b483d93b3a3b610094b5f0927b1985ec4153fd5f025bf92e5625fd97edfe9f", func := "routing/routinglaw14.CspfFits", spec := "cspfFits", unfollowed := true, recurses := true, apart := false }
def CspfFitsSaid : Prop := cspfFitsRow.holds Try.pinned (OpenSpec.ofChange cspfFitsSpec)

/-- ITS FALSE NEIGHBOUR: 'it returns false'. Refute it at one input. -/
def cspfFitsWrong : ChangeSpec := { name := "cspfFits", fn := fun _ => fun
  | [d1, d2, d3, d4] => { results := [.lit (.bool false)], args := [d1, d2, d3, d4] }
  | _ => none }
def CspfFitsWrongFalsely : Prop := cspfFitsRow.holds Try.pinned (OpenSpec.ofChange cspfFitsWrong)

/-- 'routinglaw14.CspfBest': WHATEVER THE INPUT: true; the input reads as it did. -/
def cspfBestSpec : ChangeSpec := { name := "cspfBest", fn := fun _ => fun
  | [d1, d2, d3, d4] => { results := [.lit (.bool true)], args := [d1, d2, d3, d4] }
  | _ => none }
def cspfBestRow : OpenClaim := { program := "ytgcnlmcpmocbhaa", sum := "d2b483d93b3a3b610094b5f0927b1985ec4153fd5f025bf92e5625fd97edfe9f", func := "routing/routinglaw14.CspfBest", spec := "cspfBest", unfollowed := true, recurses := true, apart := false }
def CspfBestSaid : Prop := cspfBestRow.holds Try.pinned (OpenSpec.ofChange cspfBestSpec)

/-- ITS FALSE NEIGHBOUR: 'it returns false'. Refute it at one input. -/
def cspfBestWrong : ChangeSpec := { name := "cspfBest", fn := fun _ => fun
  | [d1, d2, d3, d4] => { results := [.lit (.bool false)], args := [d1, d2, d3, d4] }
  | _ => none }
def CspfBestWrongFalsely : Prop := cspfBestRow.holds Try.pinned (OpenSpec.ofChange cspfBestWrong)

/-- 'routinglaw14.CspfPlain': WHATEVER THE INPUT: true; the input reads as it did. -/
def cspfPlainSpec : ChangeSpec := { name := "cspfPlain", fn := fun _ => fun
  | [d1, d2, d3, d4] => { results := [.lit (.bool true)], args := [d1, d2, d3, d4] }
  | _ => none }
def cspfPlainRow : OpenClaim := { program := "ytgcnlmcpmocbhaa", sum := "d2b483d93b3a3b610094b5f0927b1985ec4153fd5f025bf92e5625fd97edfe9f", func := "routing/routinglaw14.CspfPlain", spec := "cspfPlain", unfollowed := true, recurses := true, apart := false }
def CspfPlainSaid : Prop := cspfPlainRow.holds Try.pinned (OpenSpec.ofChange cspfPlainSpec)

/-- ITS FALSE NEIGHBOUR: 'it returns false'. Refute it at one input. -/
def cspfPlainWrong : ChangeSpec := { name := "cspfPlain", fn := fun _ => fun
  | [d1, d2, d3, d4] => { results := [.lit (.bool false)], args := [d1, d2, d3, d4] }
  | _ => none }
def CspfPlainWrongFalsely : Prop := cspfPlainRow.holds Try.pinned (OpenSpec.ofChange cspfPlainWrong)

/-- 'routinglaw14.CspfLess': WHATEVER THE INPUT: true; the input reads as it did. -/
def cspfLessSpec : ChangeSpec := { name := "cspfLess", fn := fun _ => fun
  | [d1, d2, d3, d4, d5, d6] => { results := [.lit (.bool true)], args := [d1, d2, d3, d4, d5, d6] }
  | _ => none }
def cspfLessRow : OpenClaim := { program := "ytgcnlmcpmocbhaa", sum := "d2b483d93b3a3b610094b5f0927b1985ec4153fd5f025bf92e5625fd97edfe9f", func := "routing/routinglaw14.CspfLess", spec := "cspfLess", unfollowed := true, recurses := true, apart := false }
def CspfLessSaid : Prop := cspfLessRow.holds Try.pinned (OpenSpec.ofChange cspfLessSpec)

/-- ITS FALSE NEIGHBOUR: 'it returns false'. Refute it at one input. -/
def cspfLessWrong : ChangeSpec := { name := "cspfLess", fn := fun _ => fun
  | [d1, d2, d3, d4, d5, d6] => { results := [.lit (.bool false)], args := [d1, d2, d3, d4, d5, d6] }
  | _ => none }
def CspfLessWrongFalsely : Prop := cspfLessRow.holds Try.pinned (OpenSpec.ofChange cspfLessWrong)

/- THE SECOND FORM. 'bulk': how many values and letters a reading holds, each counted each time it is reached (what is shared counts as often as it is met; a slice's spare places count too). A statement '..UptoSaid' is the law's where the arguments, and the package variables that the reading takes, are together of bulk at most 1048576: NARROWER than '..Said'. Prove '..Said' where nothing that the law and all that it calls make is longer than what came in: it says more and counts as full. Else prove '..UptoSaid'. A law counts once. -/
mutual
def uptoBulk {H : Type} : DataW H → Nat
  | .lit (.string bytes) => bytes.length + 1
  | .lit _ => 1
  | .nil => 1
  | .ptr d => uptoBulk d + 1
  | .slice elems spare => uptoBulkAll elems + uptoBulkAll spare + 1
  | .agg parts => uptoBulkAll parts + 1
  | .iface _ d => uptoBulk d + 1
  | .map entries => uptoBulkEntries entries + 1
  | .held _ => 1
def uptoBulkAll {H : Type} : List (DataW H) → Nat
  | [] => 0
  | d :: r => uptoBulk d + uptoBulkAll r
def uptoBulkEntries {H : Type} : List (Lit × DataW H) → Nat
  | [] => 0
  | x :: r => uptoBulkEntry x + uptoBulkEntries r
def uptoBulkEntry {H : Type} : Lit × DataW H → Nat
  | (.string bytes, d) => bytes.length + uptoBulk d + 1
  | (_, d) => uptoBulk d + 1
 end
def uptoSmall : (H : Type) → List (DataW H) → Bool := fun _ ds => decide (uptoBulkAll ds ≤ 1048576)
def OpenSpec.upto (s : _root_.Go.ChangeSpec) : _root_.Go.OpenSpec := { _root_.Go.OpenSpec.ofChange s with cond := some uptoSmall }

/-- 'routinglaw14.CspfChecks', WHERE WHAT IT READS IS OF BULK AT MOST 1048576: true; the input reads as it did. -/
def cspfChecksUptoRow : OpenClaim := { program := "ytgcnlmcpmocbhaa", sum := "d2b483d93b3a3b610094b5f0927b1985ec4153fd5f025bf92e5625fd97edfe9f", func := "routing/routinglaw14.CspfChecks", spec := "cspfChecks", unfollowed := true, recurses := true, apart := false, narrowed := true }
def CspfChecksUptoSaid : Prop := cspfChecksUptoRow.holds Try.pinned (OpenSpec.upto cspfChecksSpec)

/-- 'routinglaw14.CspfRoutes', WHERE WHAT IT READS IS OF BULK AT MOST 1048576: true; the input reads as it did. -/
def cspfRoutesUptoRow : OpenClaim := { program := "ytgcnlmcpmocbhaa", sum := "d2b483d93b3a3b610094b5f0927b1985ec4153fd5f025bf92e5625fd97edfe9f", func := "routing/routinglaw14.CspfRoutes", spec := "cspfRoutes", unfollowed := true, recurses := true, apart := false, narrowed := true }
def CspfRoutesUptoSaid : Prop := cspfRoutesUptoRow.holds Try.pinned (OpenSpec.upto cspfRoutesSpec)

/-- 'routinglaw14.CspfFits', WHERE WHAT IT READS IS OF BULK AT MOST 1048576: true; the input reads as it did. -/
def cspfFitsUptoRow : OpenClaim := { program := "ytgcnlmcpmocbhaa", sum := "d2b483d93b3a3b610094b5f0927b1985ec4153fd5f025bf92e5625fd97edfe9f", func := "routing/routinglaw14.CspfFits", spec := "cspfFits", unfollowed := true, recurses := true, apart := false, narrowed := true }
def CspfFitsUptoSaid : Prop := cspfFitsUptoRow.holds Try.pinned (OpenSpec.upto cspfFitsSpec)

/-- 'routinglaw14.CspfBest', WHERE WHAT IT READS IS OF BULK AT MOST 1048576: true; the input reads as it did. -/
def cspfBestUptoRow : OpenClaim := { program := "ytgcnlmcpmocbhaa", sum := "d2b483d93b3a3b610094b5f0927b1985ec4153fd5f025bf92e5625fd97edfe9f", func := "routing/routinglaw14.CspfBest", spec := "cspfBest", unfollowed := true, recurses := true, apart := false, narrowed := true }
def CspfBestUptoSaid : Prop := cspfBestUptoRow.holds Try.pinned (OpenSpec.upto cspfBestSpec)

/-- 'routinglaw14.CspfPlain', WHERE WHAT IT READS IS OF BULK AT MOST 1048576: true; the input reads as it did. -/
def cspfPlainUptoRow : OpenClaim := { program := "ytgcnlmcpmocbhaa", sum := "d2b483d93b3a3b610094b5f0927b1985ec4153fd5f025bf92e5625fd97edfe9f", func := "routing/routinglaw14.CspfPlain", spec := "cspfPlain", unfollowed := true, recurses := true, apart := false, narrowed := true }
def CspfPlainUptoSaid : Prop := cspfPlainUptoRow.holds Try.pinned (OpenSpec.upto cspfPlainSpec)

/-- 'routinglaw14.CspfLess', WHERE WHAT IT READS IS OF BULK AT MOST 1048576: true; the input reads as it did. -/
def cspfLessUptoRow : OpenClaim := { program := "ytgcnlmcpmocbhaa", sum := "d2b483d93b3a3b610094b5f0927b1985ec4153fd5f025bf92e5625fd97edfe9f", func := "routing/routinglaw14.CspfLess", spec := "cspfLess", unfollowed := true, recurses := true, apart := false, narrowed := true }
def CspfLessUptoSaid : Prop := cspfLessUptoRow.holds Try.pinned (OpenSpec.upto cspfLessSpec)

end Rows
end Go.Proofs.Ytgcnlmcpmocbhaa
