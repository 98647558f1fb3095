/-
  No cell of these rows narrows 'for every input' (looked for: loops, veiled, ifaces, maps, wideKeys, modest, calm, conditions, laid).
  DERIVED. THE GIVEN ROWS OF THIS SEAT. 6 by the template 'for every input the law returns true; each argument reads behind the call as it read before'; 0 by the template 'total and deterministic' (their statements: YtfngaildaoahpaaTotals.lean).
  GIVEN WITH THE SEED: the statements are not yours to turn. If you find one false, say at which input.
  Laid BY PROGRAM, IN A SANDBOX (cutbox-rows.mjs): the forced cells as the released guide's own fill.sh prints them over the translation bd66d7bf1d0025b0… (all of the seat's roots in one cut). By AI agents, Wed Nov 11 2026. No macro, syntax, notation, axiom, sorry.
-/
import Derived.Test.YtfngaildaoahpaaChecked
import GoSem.Claim
import GoSem.ClaimJoined
import GoSem.ClaimMapViews
import Derived.JoinedTies
import Derived.KernelRfl
namespace Go.Proofs.Ytfngaildaoahpaa
/- THE CELL 'sum', in the pinned program and in every row, IS THE sha256 OF THE DUMP (.gsa) THAT YtfngaildaoahpaaProg.lean LOADS. Nothing in Lean hashes anything: it is a label: what it is worth is what the hold of that sum in a sandbox is worth. -/
noncomputable def Try.pinned : Pinned := { name := "ytfngaildaoahpaa", sum := "bd66d7bf1d0025b04476082df6fa4c01ec87b0fce48451a211d01b445f41a44b", checked := Try.checked }
namespace Rows
def none {H : Type} : Left H := { results := [], args := [] }

/-- 'routinglaw28.ExchangeStarts': WHATEVER THE INPUT: true; the input reads as it did. -/
def exchangeStartsSpec : ChangeSpec := { name := "exchangeStarts", fn := fun _ => fun
  | [d1, d2, d3] => { results := [.lit (.bool true)], args := [d1, d2, d3] }
  | _ => none }
def exchangeStartsRow : OpenClaim := { program := "ytfngaildaoahpaa", sum := "bd66d7bf1d0025b04476082df6fa4c01ec87b0fce48451a211d01b445f41a44b", func := "routing/routinglaw28.ExchangeStarts", spec := "exchangeStarts", inPlace := ["slices.overlaps[routing/api.LSAHeader]"], unfollowed := true, recurses := true, apart := false }
def ExchangeStartsSaid : Prop := exchangeStartsRow.holds Try.pinned (OpenSpec.ofChange exchangeStartsSpec)

/-- ITS FALSE NEIGHBOUR: 'it returns false'. Refute it at one input. -/
def exchangeStartsWrong : ChangeSpec := { name := "exchangeStarts", fn := fun _ => fun
  | [d1, d2, d3] => { results := [.lit (.bool false)], args := [d1, d2, d3] }
  | _ => none }
def ExchangeStartsWrongFalsely : Prop := exchangeStartsRow.holds Try.pinned (OpenSpec.ofChange exchangeStartsWrong)

/-- 'routinglaw28.ExchangeReceives': WHATEVER THE INPUT: true; the input reads as it did. -/
def exchangeReceivesSpec : ChangeSpec := { name := "exchangeReceives", fn := fun _ => fun
  | [d1, d2, d3, d4, d5] => { results := [.lit (.bool true)], args := [d1, d2, d3, d4, d5] }
  | _ => none }
def exchangeReceivesRow : OpenClaim := { program := "ytfngaildaoahpaa", sum := "bd66d7bf1d0025b04476082df6fa4c01ec87b0fce48451a211d01b445f41a44b", func := "routing/routinglaw28.ExchangeReceives", spec := "exchangeReceives", inPlace := ["slices.overlaps[routing/api.LSAHeader]"], unfollowed := true, recurses := true, apart := false }
def ExchangeReceivesSaid : Prop := exchangeReceivesRow.holds Try.pinned (OpenSpec.ofChange exchangeReceivesSpec)

/-- ITS FALSE NEIGHBOUR: 'it returns false'. Refute it at one input. -/
def exchangeReceivesWrong : ChangeSpec := { name := "exchangeReceives", fn := fun _ => fun
  | [d1, d2, d3, d4, d5] => { results := [.lit (.bool false)], args := [d1, d2, d3, d4, d5] }
  | _ => none }
def ExchangeReceivesWrongFalsely : Prop := exchangeReceivesRow.holds Try.pinned (OpenSpec.ofChange exchangeReceivesWrong)

/-- 'routinglaw28.ExchangeRequests': WHATEVER THE INPUT: true; the input reads as it did. -/
def exchangeRequestsSpec : ChangeSpec := { name := "exchangeRequests", fn := fun _ => fun
  | [d1, d2, d3, d4, d5] => { results := [.lit (.bool true)], args := [d1, d2, d3, d4, d5] }
  | _ => none }
def exchangeRequestsRow : OpenClaim := { program := "ytfngaildaoahpaa", sum := "bd66d7bf1d0025b04476082df6fa4c01ec87b0fce48451a211d01b445f41a44b", func := "routing/routinglaw28.ExchangeRequests", spec := "exchangeRequests", inPlace := ["slices.overlaps[routing/api.LSAHeader]"], unfollowed := true, recurses := true, apart := false }
def ExchangeRequestsSaid : Prop := exchangeRequestsRow.holds Try.pinned (OpenSpec.ofChange exchangeRequestsSpec)

/-- ITS FALSE NEIGHBOUR: 'it returns false'. Refute it at one input. -/
def exchangeRequestsWrong : ChangeSpec := { name := "exchangeRequests", fn := fun _ => fun
  | [d1, d2, d3, d4, d5] => { results := [.lit (.bool false)], args := [d1, d2, d3, d4, d5] }
  | _ => none }
def ExchangeRequestsWrongFalsely : Prop := exchangeRequestsRow.holds Try.pinned (OpenSpec.ofChange exchangeRequestsWrong)

/-- 'routinglaw28.ExchangeAnswers': WHATEVER THE INPUT: true; the input reads as it did. -/
def exchangeAnswersSpec : ChangeSpec := { name := "exchangeAnswers", fn := fun _ => fun
  | [d1, d2] => { results := [.lit (.bool true)], args := [d1, d2] }
  | _ => none }
def exchangeAnswersRow : OpenClaim := { program := "ytfngaildaoahpaa", sum := "bd66d7bf1d0025b04476082df6fa4c01ec87b0fce48451a211d01b445f41a44b", func := "routing/routinglaw28.ExchangeAnswers", spec := "exchangeAnswers", inPlace := ["slices.overlaps[routing/api.LSAHeader]"], unfollowed := true, recurses := true, apart := false }
def ExchangeAnswersSaid : Prop := exchangeAnswersRow.holds Try.pinned (OpenSpec.ofChange exchangeAnswersSpec)

/-- ITS FALSE NEIGHBOUR: 'it returns false'. Refute it at one input. -/
def exchangeAnswersWrong : ChangeSpec := { name := "exchangeAnswers", fn := fun _ => fun
  | [d1, d2] => { results := [.lit (.bool false)], args := [d1, d2] }
  | _ => none }
def ExchangeAnswersWrongFalsely : Prop := exchangeAnswersRow.holds Try.pinned (OpenSpec.ofChange exchangeAnswersWrong)

/-- 'routinglaw28.ExchangeGot': WHATEVER THE INPUT: true; the input reads as it did. -/
def exchangeGotSpec : ChangeSpec := { name := "exchangeGot", fn := fun _ => fun
  | [d1, d2, d3, d4] => { results := [.lit (.bool true)], args := [d1, d2, d3, d4] }
  | _ => none }
def exchangeGotRow : OpenClaim := { program := "ytfngaildaoahpaa", sum := "bd66d7bf1d0025b04476082df6fa4c01ec87b0fce48451a211d01b445f41a44b", func := "routing/routinglaw28.ExchangeGot", spec := "exchangeGot", inPlace := ["slices.overlaps[routing/api.LSAHeader]"], unfollowed := true, recurses := true, apart := false }
def ExchangeGotSaid : Prop := exchangeGotRow.holds Try.pinned (OpenSpec.ofChange exchangeGotSpec)

/-- ITS FALSE NEIGHBOUR: 'it returns false'. Refute it at one input. -/
def exchangeGotWrong : ChangeSpec := { name := "exchangeGot", fn := fun _ => fun
  | [d1, d2, d3, d4] => { results := [.lit (.bool false)], args := [d1, d2, d3, d4] }
  | _ => none }
def ExchangeGotWrongFalsely : Prop := exchangeGotRow.holds Try.pinned (OpenSpec.ofChange exchangeGotWrong)

/-- 'routinglaw28.ExchangeBoth': WHATEVER THE INPUT: true; the input reads as it did. -/
def exchangeBothSpec : ChangeSpec := { name := "exchangeBoth", fn := fun _ => fun
  | [d1, d2, d3, d4, d5] => { results := [.lit (.bool true)], args := [d1, d2, d3, d4, d5] }
  | _ => none }
def exchangeBothRow : OpenClaim := { program := "ytfngaildaoahpaa", sum := "bd66d7bf1d0025b04476082df6fa4c01ec87b0fce48451a211d01b445f41a44b", func := "routing/routinglaw28.ExchangeBoth", spec := "exchangeBoth", inPlace := ["slices.overlaps[routing/api.LSAHeader]"], unfollowed := true, recurses := true, apart := false }
def ExchangeBothSaid : Prop := exchangeBothRow.holds Try.pinned (OpenSpec.ofChange exchangeBothSpec)

/-- ITS FALSE NEIGHBOUR: 'it returns false'. Refute it at one input. -/
def exchangeBothWrong : ChangeSpec := { name := "exchangeBoth", fn := fun _ => fun
  | [d1, d2, d3, d4, d5] => { results := [.lit (.bool false)], args := [d1, d2, d3, d4, d5] }
  | _ => none }
def ExchangeBothWrongFalsely : Prop := exchangeBothRow.holds Try.pinned (OpenSpec.ofChange exchangeBothWrong)

/- THE SECOND FORM. 'bulk': how many values and letters a reading holds, each counted each time it is reached (what is shared counts as often as it is met; a slice's spare places count too). A statement '..UptoSaid' is the law's where the arguments, and the package variables that the reading takes, are together of bulk at most 1048576: NARROWER than '..Said'. Prove '..Said' where nothing that the law and all that it calls make is longer than what came in: it says more and counts as full. Else prove '..UptoSaid'. A law counts once. -/
mutual
def uptoBulk {H : Type} : DataW H → Nat
  | .lit (.string bytes) => bytes.length + 1
  | .lit _ => 1
  | .nil => 1
  | .ptr d => uptoBulk d + 1
  | .slice elems spare => uptoBulkAll elems + uptoBulkAll spare + 1
  | .agg parts => uptoBulkAll parts + 1
  | .iface _ d => uptoBulk d + 1
  | .map entries => uptoBulkEntries entries + 1
  | .held _ => 1
def uptoBulkAll {H : Type} : List (DataW H) → Nat
  | [] => 0
  | d :: r => uptoBulk d + uptoBulkAll r
def uptoBulkEntries {H : Type} : List (Lit × DataW H) → Nat
  | [] => 0
  | x :: r => uptoBulkEntry x + uptoBulkEntries r
def uptoBulkEntry {H : Type} : Lit × DataW H → Nat
  | (.string bytes, d) => bytes.length + uptoBulk d + 1
  | (_, d) => uptoBulk d + 1
 end
def uptoSmall : (H : Type) → List (DataW H) → Bool := fun _ ds => decide (uptoBulkAll ds ≤ 1048576)
def OpenSpec.upto (s : _root_.Go.ChangeSpec) : _root_.Go.OpenSpec := { _root_.Go.OpenSpec.ofChange s with cond := some uptoSmall }

/-- 'routinglaw28.ExchangeStarts', WHERE WHAT IT READS IS OF BULK AT MOST 1048576: true; the input reads as it did. -/
def exchangeStartsUptoRow : OpenClaim := { program := "ytfngaildaoahpaa", sum := "bd66d7bf1d0025b04476082df6fa4c01ec87b0fce48451a211d01b445f41a44b", func := "routing/routinglaw28.ExchangeStarts", spec := "exchangeStarts", inPlace := ["slices.overlaps[routing/api.LSAHeader]"], unfollowed := true, recurses := true, apart := false, narrowed := true }
def ExchangeStartsUptoSaid : Prop := exchangeStartsUptoRow.holds Try.pinned (OpenSpec.upto exchangeStartsSpec)

/-- 'routinglaw28.ExchangeReceives', WHERE WHAT IT READS IS OF BULK AT MOST 1048576: true; the input reads as it did. -/
def exchangeReceivesUptoRow : OpenClaim := { program := "ytfngaildaoahpaa", sum := "bd66d7bf1d0025b04476082df6fa4c01ec87b0fce48451a211d01b445f41a44b", func := "routing/routinglaw28.ExchangeReceives", spec := "exchangeReceives", inPlace := ["slices.overlaps[routing/api.LSAHeader]"], unfollowed := true, recurses := true, apart := false, narrowed := true }
def ExchangeReceivesUptoSaid : Prop := exchangeReceivesUptoRow.holds Try.pinned (OpenSpec.upto exchangeReceivesSpec)

/-- 'routinglaw28.ExchangeRequests', WHERE WHAT IT READS IS OF BULK AT MOST 1048576: true; the input reads as it did. -/
def exchangeRequestsUptoRow : OpenClaim := { program := "ytfngaildaoahpaa", sum := "bd66d7bf1d0025b04476082df6fa4c01ec87b0fce48451a211d01b445f41a44b", func := "routing/routinglaw28.ExchangeRequests", spec := "exchangeRequests", inPlace := ["slices.overlaps[routing/api.LSAHeader]"], unfollowed := true, recurses := true, apart := false, narrowed := true }
def ExchangeRequestsUptoSaid : Prop := exchangeRequestsUptoRow.holds Try.pinned (OpenSpec.upto exchangeRequestsSpec)

/-- 'routinglaw28.ExchangeAnswers', WHERE WHAT IT READS IS OF BULK AT MOST 1048576: true; the input reads as it did. -/
def exchangeAnswersUptoRow : OpenClaim := { program := "ytfngaildaoahpaa", sum := "bd66d7bf1d0025b04476082df6fa4c01ec87b0fce48451a211d01b445f41a44b", func := "routing/routinglaw28.ExchangeAnswers", spec := "exchangeAnswers", inPlace := ["slices.overlaps[routing/api.LSAHeader]"], unfollowed := true, recurses := true, apart := false, narrowed := true }
def ExchangeAnswersUptoSaid : Prop := exchangeAnswersUptoRow.holds Try.pinned (OpenSpec.upto exchangeAnswersSpec)

/-- 'routinglaw28.ExchangeGot', WHERE WHAT IT READS IS OF BULK AT MOST 1048576: true; the input reads as it did. -/
def exchangeGotUptoRow : OpenClaim := { program := "ytfngaildaoahpaa", sum := "bd66d7bf1d0025b04476082df6fa4c01ec87b0fce48451a211d01b445f41a44b", func := "routing/routinglaw28.ExchangeGot", spec := "exchangeGot", inPlace := ["slices.overlaps[routing/api.LSAHeader]"], unfollowed := true, recurses := true, apart := false, narrowed := true }
def ExchangeGotUptoSaid : Prop := exchangeGotUptoRow.holds Try.pinned (OpenSpec.upto exchangeGotSpec)

/-- 'routinglaw28.ExchangeBoth', WHERE WHAT IT READS IS OF BULK AT MOST 1048576: true; the input reads as it did. -/
def exchangeBothUptoRow : OpenClaim := { program := "ytfngaildaoahpaa", sum := "bd66d7bf1d0025b04476082df6fa4c01ec87b0fce48451a211d01b445f41a44b", func := "routing/routinglaw28.ExchangeBoth", spec := "exchangeBoth", inPlace := ["slices.overlaps[routing/api.LSAHeader]"], unfollowed := true, recurses := true, apart := false, narrowed := true }
def ExchangeBothUptoSaid : Prop := exchangeBothUptoRow.holds Try.pinned (OpenSpec.upto exchangeBothSpec)

end Rows
end Go.Proofs.Ytfngaildaoahpaa
