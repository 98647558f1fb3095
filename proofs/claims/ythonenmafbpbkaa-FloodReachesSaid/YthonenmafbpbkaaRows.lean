/-
  No cell of these rows narrows 'for every input' (looked for: loops, veiled, ifaces, maps, wideKeys, modest, calm, conditions, laid).
  DERIVED. THE GIVEN ROWS OF THIS SEAT. 6 by the template 'for every input the law returns true; each argument reads behind the call as it read before'; 0 by the template 'total and deterministic' (their statements: YthonenmafbpbkaaTotals.lean).
  GIVEN WITH THE SEED: the statements are not yours to turn. If you find one false, say at which input.
  Laid BY PROGRAM, IN A SANDBOX (cutbox-rows.mjs): the forced cells as the released guide's own fill.sh prints them over the translation be3d5043d38f5a5d… (all of the seat's roots in one cut). By AI agents, Wed Nov 11 2026. No macro, syntax, notation, axiom, sorry.
-/
import Derived.Test.YthonenmafbpbkaaChecked
import GoSem.Claim
import GoSem.ClaimJoined
import GoSem.ClaimMapViews
import Derived.JoinedTies
import Derived.KernelRfl
namespace Go.Proofs.Ythonenmafbpbkaa
/- THE CELL 'sum', in the pinned program and in every row, IS THE sha256 OF THE DUMP (.gsa) THAT YthonenmafbpbkaaProg.lean LOADS. Nothing in Lean hashes anything: it is a label: what it is worth is what the hold of that sum in a sandbox is worth. -/
noncomputable def Try.pinned : Pinned := { name := "ythonenmafbpbkaa", sum := "be3d5043d38f5a5d13fa01d02400906c1f6bea6f01a9f6109e2d9db0531376b2", checked := Try.checked }
namespace Rows
def none {H : Type} : Left H := { results := [], args := [] }

/-- 'routinglaw29.FloodSpreads': WHATEVER THE INPUT: true; the input reads as it did. -/
def floodSpreadsSpec : ChangeSpec := { name := "floodSpreads", fn := fun _ => fun
  | [d1, d2, d3, d4, d5, d6] => { results := [.lit (.bool true)], args := [d1, d2, d3, d4, d5, d6] }
  | _ => none }
def floodSpreadsRow : OpenClaim := { program := "ythonenmafbpbkaa", sum := "be3d5043d38f5a5d13fa01d02400906c1f6bea6f01a9f6109e2d9db0531376b2", func := "routing/routinglaw29.FloodSpreads", spec := "floodSpreads", inPlace := ["slices.overlaps[routing/api.LSAHeader]"], unfollowed := true, recurses := true, apart := false }
def FloodSpreadsSaid : Prop := floodSpreadsRow.holds Try.pinned (OpenSpec.ofChange floodSpreadsSpec)

/-- ITS FALSE NEIGHBOUR: 'it returns false'. Refute it at one input. -/
def floodSpreadsWrong : ChangeSpec := { name := "floodSpreads", fn := fun _ => fun
  | [d1, d2, d3, d4, d5, d6] => { results := [.lit (.bool false)], args := [d1, d2, d3, d4, d5, d6] }
  | _ => none }
def FloodSpreadsWrongFalsely : Prop := floodSpreadsRow.holds Try.pinned (OpenSpec.ofChange floodSpreadsWrong)

/-- 'routinglaw29.FloodAcks': WHATEVER THE INPUT: true; the input reads as it did. -/
def floodAcksSpec : ChangeSpec := { name := "floodAcks", fn := fun _ => fun
  | [d1, d2] => { results := [.lit (.bool true)], args := [d1, d2] }
  | _ => none }
def floodAcksRow : OpenClaim := { program := "ythonenmafbpbkaa", sum := "be3d5043d38f5a5d13fa01d02400906c1f6bea6f01a9f6109e2d9db0531376b2", func := "routing/routinglaw29.FloodAcks", spec := "floodAcks", inPlace := ["slices.overlaps[routing/api.LSAHeader]"], unfollowed := true, recurses := true, apart := false }
def FloodAcksSaid : Prop := floodAcksRow.holds Try.pinned (OpenSpec.ofChange floodAcksSpec)

/-- ITS FALSE NEIGHBOUR: 'it returns false'. Refute it at one input. -/
def floodAcksWrong : ChangeSpec := { name := "floodAcks", fn := fun _ => fun
  | [d1, d2] => { results := [.lit (.bool false)], args := [d1, d2] }
  | _ => none }
def FloodAcksWrongFalsely : Prop := floodAcksRow.holds Try.pinned (OpenSpec.ofChange floodAcksWrong)

/-- 'routinglaw29.FloodDue': WHATEVER THE INPUT: true; the input reads as it did. -/
def floodDueSpec : ChangeSpec := { name := "floodDue", fn := fun _ => fun
  | [d1, d2, d3, d4] => { results := [.lit (.bool true)], args := [d1, d2, d3, d4] }
  | _ => none }
def floodDueRow : OpenClaim := { program := "ythonenmafbpbkaa", sum := "be3d5043d38f5a5d13fa01d02400906c1f6bea6f01a9f6109e2d9db0531376b2", func := "routing/routinglaw29.FloodDue", spec := "floodDue", inPlace := ["slices.overlaps[routing/api.LSAHeader]"], unfollowed := true, recurses := true, apart := false }
def FloodDueSaid : Prop := floodDueRow.holds Try.pinned (OpenSpec.ofChange floodDueSpec)

/-- ITS FALSE NEIGHBOUR: 'it returns false'. Refute it at one input. -/
def floodDueWrong : ChangeSpec := { name := "floodDue", fn := fun _ => fun
  | [d1, d2, d3, d4] => { results := [.lit (.bool false)], args := [d1, d2, d3, d4] }
  | _ => none }
def FloodDueWrongFalsely : Prop := floodDueRow.holds Try.pinned (OpenSpec.ofChange floodDueWrong)

/-- 'routinglaw29.FloodOnce': WHATEVER THE INPUT: true; the input reads as it did. -/
def floodOnceSpec : ChangeSpec := { name := "floodOnce", fn := fun _ => fun
  | [d1, d2, d3, d4, d5, d6] => { results := [.lit (.bool true)], args := [d1, d2, d3, d4, d5, d6] }
  | _ => none }
def floodOnceRow : OpenClaim := { program := "ythonenmafbpbkaa", sum := "be3d5043d38f5a5d13fa01d02400906c1f6bea6f01a9f6109e2d9db0531376b2", func := "routing/routinglaw29.FloodOnce", spec := "floodOnce", inPlace := ["slices.overlaps[routing/api.LSAHeader]"], unfollowed := true, recurses := true, apart := false }
def FloodOnceSaid : Prop := floodOnceRow.holds Try.pinned (OpenSpec.ofChange floodOnceSpec)

/-- ITS FALSE NEIGHBOUR: 'it returns false'. Refute it at one input. -/
def floodOnceWrong : ChangeSpec := { name := "floodOnce", fn := fun _ => fun
  | [d1, d2, d3, d4, d5, d6] => { results := [.lit (.bool false)], args := [d1, d2, d3, d4, d5, d6] }
  | _ => none }
def FloodOnceWrongFalsely : Prop := floodOnceRow.holds Try.pinned (OpenSpec.ofChange floodOnceWrong)

/-- 'routinglaw29.FloodDecides': WHATEVER THE INPUT: true; the input reads as it did. -/
def floodDecidesSpec : ChangeSpec := { name := "floodDecides", fn := fun _ => fun
  | [d1, d2, d3] => { results := [.lit (.bool true)], args := [d1, d2, d3] }
  | _ => none }
def floodDecidesRow : OpenClaim := { program := "ythonenmafbpbkaa", sum := "be3d5043d38f5a5d13fa01d02400906c1f6bea6f01a9f6109e2d9db0531376b2", func := "routing/routinglaw29.FloodDecides", spec := "floodDecides", inPlace := ["slices.overlaps[routing/api.LSAHeader]"], unfollowed := true, recurses := true, apart := false }
def FloodDecidesSaid : Prop := floodDecidesRow.holds Try.pinned (OpenSpec.ofChange floodDecidesSpec)

/-- ITS FALSE NEIGHBOUR: 'it returns false'. Refute it at one input. -/
def floodDecidesWrong : ChangeSpec := { name := "floodDecides", fn := fun _ => fun
  | [d1, d2, d3] => { results := [.lit (.bool false)], args := [d1, d2, d3] }
  | _ => none }
def FloodDecidesWrongFalsely : Prop := floodDecidesRow.holds Try.pinned (OpenSpec.ofChange floodDecidesWrong)

/-- 'routinglaw29.FloodReaches': WHATEVER THE INPUT: true; the input reads as it did. -/
def floodReachesSpec : ChangeSpec := { name := "floodReaches", fn := fun _ => fun
  | [d1, d2, d3, d4] => { results := [.lit (.bool true)], args := [d1, d2, d3, d4] }
  | _ => none }
def floodReachesRow : OpenClaim := { program := "ythonenmafbpbkaa", sum := "be3d5043d38f5a5d13fa01d02400906c1f6bea6f01a9f6109e2d9db0531376b2", func := "routing/routinglaw29.FloodReaches", spec := "floodReaches", inPlace := ["slices.overlaps[routing/api.LSAHeader]"], unfollowed := true, recurses := true, apart := false }
def FloodReachesSaid : Prop := floodReachesRow.holds Try.pinned (OpenSpec.ofChange floodReachesSpec)

/-- ITS FALSE NEIGHBOUR: 'it returns false'. Refute it at one input. -/
def floodReachesWrong : ChangeSpec := { name := "floodReaches", fn := fun _ => fun
  | [d1, d2, d3, d4] => { results := [.lit (.bool false)], args := [d1, d2, d3, d4] }
  | _ => none }
def FloodReachesWrongFalsely : Prop := floodReachesRow.holds Try.pinned (OpenSpec.ofChange floodReachesWrong)

/- THE SECOND FORM. 'bulk': how many values and letters a reading holds, each counted each time it is reached (what is shared counts as often as it is met; a slice's spare places count too). A statement '..UptoSaid' is the law's where the arguments, and the package variables that the reading takes, are together of bulk at most 1048576: NARROWER than '..Said'. Prove '..Said' where nothing that the law and all that it calls make is longer than what came in: it says more and counts as full. Else prove '..UptoSaid'. A law counts once. -/
mutual
def uptoBulk {H : Type} : DataW H → Nat
  | .lit (.string bytes) => bytes.length + 1
  | .lit _ => 1
  | .nil => 1
  | .ptr d => uptoBulk d + 1
  | .slice elems spare => uptoBulkAll elems + uptoBulkAll spare + 1
  | .agg parts => uptoBulkAll parts + 1
  | .iface _ d => uptoBulk d + 1
  | .map entries => uptoBulkEntries entries + 1
  | .held _ => 1
def uptoBulkAll {H : Type} : List (DataW H) → Nat
  | [] => 0
  | d :: r => uptoBulk d + uptoBulkAll r
def uptoBulkEntries {H : Type} : List (Lit × DataW H) → Nat
  | [] => 0
  | x :: r => uptoBulkEntry x + uptoBulkEntries r
def uptoBulkEntry {H : Type} : Lit × DataW H → Nat
  | (.string bytes, d) => bytes.length + uptoBulk d + 1
  | (_, d) => uptoBulk d + 1
 end
def uptoSmall : (H : Type) → List (DataW H) → Bool := fun _ ds => decide (uptoBulkAll ds ≤ 1048576)
def OpenSpec.upto (s : _root_.Go.ChangeSpec) : _root_.Go.OpenSpec := { _root_.Go.OpenSpec.ofChange s with cond := some uptoSmall }

/-- 'routinglaw29.FloodSpreads', WHERE WHAT IT READS IS OF BULK AT MOST 1048576: true; the input reads as it did. -/
def floodSpreadsUptoRow : OpenClaim := { program := "ythonenmafbpbkaa", sum := "be3d5043d38f5a5d13fa01d02400906c1f6bea6f01a9f6109e2d9db0531376b2", func := "routing/routinglaw29.FloodSpreads", spec := "floodSpreads", inPlace := ["slices.overlaps[routing/api.LSAHeader]"], unfollowed := true, recurses := true, apart := false, narrowed := true }
def FloodSpreadsUptoSaid : Prop := floodSpreadsUptoRow.holds Try.pinned (OpenSpec.upto floodSpreadsSpec)

/-- 'routinglaw29.FloodAcks', WHERE WHAT IT READS IS OF BULK AT MOST 1048576: true; the input reads as it did. -/
def floodAcksUptoRow : OpenClaim := { program := "ythonenmafbpbkaa", sum := "be3d5043d38f5a5d13fa01d02400906c1f6bea6f01a9f6109e2d9db0531376b2", func := "routing/routinglaw29.FloodAcks", spec := "floodAcks", inPlace := ["slices.overlaps[routing/api.LSAHeader]"], unfollowed := true, recurses := true, apart := false, narrowed := true }
def FloodAcksUptoSaid : Prop := floodAcksUptoRow.holds Try.pinned (OpenSpec.upto floodAcksSpec)

/-- 'routinglaw29.FloodDue', WHERE WHAT IT READS IS OF BULK AT MOST 1048576: true; the input reads as it did. -/
def floodDueUptoRow : OpenClaim := { program := "ythonenmafbpbkaa", sum := "be3d5043d38f5a5d13fa01d02400906c1f6bea6f01a9f6109e2d9db0531376b2", func := "routing/routinglaw29.FloodDue", spec := "floodDue", inPlace := ["slices.overlaps[routing/api.LSAHeader]"], unfollowed := true, recurses := true, apart := false, narrowed := true }
def FloodDueUptoSaid : Prop := floodDueUptoRow.holds Try.pinned (OpenSpec.upto floodDueSpec)

/-- 'routinglaw29.FloodOnce', WHERE WHAT IT READS IS OF BULK AT MOST 1048576: true; the input reads as it did. -/
def floodOnceUptoRow : OpenClaim := { program := "ythonenmafbpbkaa", sum := "be3d5043d38f5a5d13fa01d02400906c1f6bea6f01a9f6109e2d9db0531376b2", func := "routing/routinglaw29.FloodOnce", spec := "floodOnce", inPlace := ["slices.overlaps[routing/api.LSAHeader]"], unfollowed := true, recurses := true, apart := false, narrowed := true }
def FloodOnceUptoSaid : Prop := floodOnceUptoRow.holds Try.pinned (OpenSpec.upto floodOnceSpec)

/-- 'routinglaw29.FloodDecides', WHERE WHAT IT READS IS OF BULK AT MOST 1048576: true; the input reads as it did. -/
def floodDecidesUptoRow : OpenClaim := { program := "ythonenmafbpbkaa", sum := "be3d5043d38f5a5d13fa01d02400906c1f6bea6f01a9f6109e2d9db0531376b2", func := "routing/routinglaw29.FloodDecides", spec := "floodDecides", inPlace := ["slices.overlaps[routing/api.LSAHeader]"], unfollowed := true, recurses := true, apart := false, narrowed := true }
def FloodDecidesUptoSaid : Prop := floodDecidesUptoRow.holds Try.pinned (OpenSpec.upto floodDecidesSpec)

/-- 'routinglaw29.FloodReaches', WHERE WHAT IT READS IS OF BULK AT MOST 1048576: true; the input reads as it did. -/
def floodReachesUptoRow : OpenClaim := { program := "ythonenmafbpbkaa", sum := "be3d5043d38f5a5d13fa01d02400906c1f6bea6f01a9f6109e2d9db0531376b2", func := "routing/routinglaw29.FloodReaches", spec := "floodReaches", inPlace := ["slices.overlaps[routing/api.LSAHeader]"], unfollowed := true, recurses := true, apart := false, narrowed := true }
def FloodReachesUptoSaid : Prop := floodReachesUptoRow.holds Try.pinned (OpenSpec.upto floodReachesSpec)

end Rows
end Go.Proofs.Ythonenmafbpbkaa
