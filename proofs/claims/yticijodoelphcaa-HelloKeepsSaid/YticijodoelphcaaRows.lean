/-
  No cell of these rows narrows 'for every input' (looked for: loops, veiled, ifaces, maps, wideKeys, modest, calm, conditions, laid).
  DERIVED. THE GIVEN ROWS OF THIS SEAT. 7 by the template 'for every input the law returns true; each argument reads behind the call as it read before'; 0 by the template 'total and deterministic' (their statements: YticijodoelphcaaTotals.lean).
  GIVEN WITH THE SEED: the statements are not yours to turn. If you find one false, say at which input.
  Laid BY PROGRAM, IN A SANDBOX (cutbox-rows.mjs): the forced cells as the released guide's own fill.sh prints them over the translation 09b7ad73d6c3466f… (all of the seat's roots in one cut). By AI agents, Wed Nov 11 2026. No macro, syntax, notation, axiom, sorry.
-/
import Derived.Test.YticijodoelphcaaChecked
import GoSem.Claim
import GoSem.ClaimJoined
import GoSem.ClaimMapViews
import Derived.JoinedTies
import Derived.KernelRfl
namespace Go.Proofs.Yticijodoelphcaa
/- THE CELL 'sum', in the pinned program and in every row, IS THE sha256 OF THE DUMP (.gsa) THAT YticijodoelphcaaProg.lean LOADS. Nothing in Lean hashes anything: it is a label: what it is worth is what the hold of that sum in a sandbox is worth. -/
noncomputable def Try.pinned : Pinned := { name := "yticijodoelphcaa", sum := "09b7ad73d6c3466f1a94105dfa90d7a57d1e99ab193c8b34e08fc51372eb312d", checked := Try.checked }
namespace Rows
def none {H : Type} : Left H := { results := [], args := [] }

/-- 'routinglaw26.HelloReceives': WHATEVER THE INPUT: true; the input reads as it did. -/
def helloReceivesSpec : ChangeSpec := { name := "helloReceives", fn := fun _ => fun
  | [d1, d2, d3, d4] => { results := [.lit (.bool true)], args := [d1, d2, d3, d4] }
  | _ => none }
def helloReceivesRow : OpenClaim := { program := "yticijodoelphcaa", sum := "09b7ad73d6c3466f1a94105dfa90d7a57d1e99ab193c8b34e08fc51372eb312d", func := "routing/routinglaw26.HelloReceives", spec := "helloReceives", inPlace := ["slices.overlaps[routing/api.Neighbor]"], unfollowed := true, recurses := true, apart := false }
def HelloReceivesSaid : Prop := helloReceivesRow.holds Try.pinned (OpenSpec.ofChange helloReceivesSpec)

/-- ITS FALSE NEIGHBOUR: 'it returns false'. Refute it at one input. -/
def helloReceivesWrong : ChangeSpec := { name := "helloReceives", fn := fun _ => fun
  | [d1, d2, d3, d4] => { results := [.lit (.bool false)], args := [d1, d2, d3, d4] }
  | _ => none }
def HelloReceivesWrongFalsely : Prop := helloReceivesRow.holds Try.pinned (OpenSpec.ofChange helloReceivesWrong)

/-- 'routinglaw26.HelloWants': WHATEVER THE INPUT: true; the input reads as it did. -/
def helloWantsSpec : ChangeSpec := { name := "helloWants", fn := fun _ => fun
  | [d1, d2, d3] => { results := [.lit (.bool true)], args := [d1, d2, d3] }
  | _ => none }
def helloWantsRow : OpenClaim := { program := "yticijodoelphcaa", sum := "09b7ad73d6c3466f1a94105dfa90d7a57d1e99ab193c8b34e08fc51372eb312d", func := "routing/routinglaw26.HelloWants", spec := "helloWants", inPlace := ["slices.overlaps[routing/api.Neighbor]"], unfollowed := true, recurses := true, apart := false }
def HelloWantsSaid : Prop := helloWantsRow.holds Try.pinned (OpenSpec.ofChange helloWantsSpec)

/-- ITS FALSE NEIGHBOUR: 'it returns false'. Refute it at one input. -/
def helloWantsWrong : ChangeSpec := { name := "helloWants", fn := fun _ => fun
  | [d1, d2, d3] => { results := [.lit (.bool false)], args := [d1, d2, d3] }
  | _ => none }
def HelloWantsWrongFalsely : Prop := helloWantsRow.holds Try.pinned (OpenSpec.ofChange helloWantsWrong)

/-- 'routinglaw26.HelloKeeps': WHATEVER THE INPUT: true; the input reads as it did. -/
def helloKeepsSpec : ChangeSpec := { name := "helloKeeps", fn := fun _ => fun
  | [d1, d2, d3, d4] => { results := [.lit (.bool true)], args := [d1, d2, d3, d4] }
  | _ => none }
def helloKeepsRow : OpenClaim := { program := "yticijodoelphcaa", sum := "09b7ad73d6c3466f1a94105dfa90d7a57d1e99ab193c8b34e08fc51372eb312d", func := "routing/routinglaw26.HelloKeeps", spec := "helloKeeps", inPlace := ["slices.overlaps[routing/api.Neighbor]"], unfollowed := true, recurses := true, apart := false }
def HelloKeepsSaid : Prop := helloKeepsRow.holds Try.pinned (OpenSpec.ofChange helloKeepsSpec)

/-- ITS FALSE NEIGHBOUR: 'it returns false'. Refute it at one input. -/
def helloKeepsWrong : ChangeSpec := { name := "helloKeeps", fn := fun _ => fun
  | [d1, d2, d3, d4] => { results := [.lit (.bool false)], args := [d1, d2, d3, d4] }
  | _ => none }
def HelloKeepsWrongFalsely : Prop := helloKeepsRow.holds Try.pinned (OpenSpec.ofChange helloKeepsWrong)

/-- 'routinglaw26.HelloChecks': WHATEVER THE INPUT: true; the input reads as it did. -/
def helloChecksSpec : ChangeSpec := { name := "helloChecks", fn := fun _ => fun
  | [d] => { results := [.lit (.bool true)], args := [d] }
  | _ => none }
def helloChecksRow : OpenClaim := { program := "yticijodoelphcaa", sum := "09b7ad73d6c3466f1a94105dfa90d7a57d1e99ab193c8b34e08fc51372eb312d", func := "routing/routinglaw26.HelloChecks", spec := "helloChecks", inPlace := ["slices.overlaps[routing/api.Neighbor]"], unfollowed := true, recurses := true, apart := false }
def HelloChecksSaid : Prop := helloChecksRow.holds Try.pinned (OpenSpec.ofChange helloChecksSpec)

/-- ITS FALSE NEIGHBOUR: 'it returns false'. Refute it at one input. -/
def helloChecksWrong : ChangeSpec := { name := "helloChecks", fn := fun _ => fun
  | [d] => { results := [.lit (.bool false)], args := [d] }
  | _ => none }
def HelloChecksWrongFalsely : Prop := helloChecksRow.holds Try.pinned (OpenSpec.ofChange helloChecksWrong)

/-- 'routinglaw26.HelloTwoWay': WHATEVER THE INPUT: true; the input reads as it did. -/
def helloTwoWaySpec : ChangeSpec := { name := "helloTwoWay", fn := fun _ => fun
  | [d1, d2, d3, d4, d5] => { results := [.lit (.bool true)], args := [d1, d2, d3, d4, d5] }
  | _ => none }
def helloTwoWayRow : OpenClaim := { program := "yticijodoelphcaa", sum := "09b7ad73d6c3466f1a94105dfa90d7a57d1e99ab193c8b34e08fc51372eb312d", func := "routing/routinglaw26.HelloTwoWay", spec := "helloTwoWay", inPlace := ["slices.overlaps[routing/api.Neighbor]"], unfollowed := true, recurses := true, apart := false }
def HelloTwoWaySaid : Prop := helloTwoWayRow.holds Try.pinned (OpenSpec.ofChange helloTwoWaySpec)

/-- ITS FALSE NEIGHBOUR: 'it returns false'. Refute it at one input. -/
def helloTwoWayWrong : ChangeSpec := { name := "helloTwoWay", fn := fun _ => fun
  | [d1, d2, d3, d4, d5] => { results := [.lit (.bool false)], args := [d1, d2, d3, d4, d5] }
  | _ => none }
def HelloTwoWayWrongFalsely : Prop := helloTwoWayRow.holds Try.pinned (OpenSpec.ofChange helloTwoWayWrong)

/-- 'routinglaw26.HelloMakes': WHATEVER THE INPUT: true; the input reads as it did. -/
def helloMakesSpec : ChangeSpec := { name := "helloMakes", fn := fun _ => fun
  | [d1, d2, d3] => { results := [.lit (.bool true)], args := [d1, d2, d3] }
  | _ => none }
def helloMakesRow : OpenClaim := { program := "yticijodoelphcaa", sum := "09b7ad73d6c3466f1a94105dfa90d7a57d1e99ab193c8b34e08fc51372eb312d", func := "routing/routinglaw26.HelloMakes", spec := "helloMakes", inPlace := ["slices.overlaps[routing/api.Neighbor]"], unfollowed := true, recurses := true, apart := false }
def HelloMakesSaid : Prop := helloMakesRow.holds Try.pinned (OpenSpec.ofChange helloMakesSpec)

/-- ITS FALSE NEIGHBOUR: 'it returns false'. Refute it at one input. -/
def helloMakesWrong : ChangeSpec := { name := "helloMakes", fn := fun _ => fun
  | [d1, d2, d3] => { results := [.lit (.bool false)], args := [d1, d2, d3] }
  | _ => none }
def HelloMakesWrongFalsely : Prop := helloMakesRow.holds Try.pinned (OpenSpec.ofChange helloMakesWrong)

/-- 'routinglaw26.HelloTime': WHATEVER THE INPUT: true; the input reads as it did. -/
def helloTimeSpec : ChangeSpec := { name := "helloTime", fn := fun _ => fun
  | [d1, d2, d3, d4, d5] => { results := [.lit (.bool true)], args := [d1, d2, d3, d4, d5] }
  | _ => none }
def helloTimeRow : OpenClaim := { program := "yticijodoelphcaa", sum := "09b7ad73d6c3466f1a94105dfa90d7a57d1e99ab193c8b34e08fc51372eb312d", func := "routing/routinglaw26.HelloTime", spec := "helloTime", inPlace := ["slices.overlaps[routing/api.Neighbor]"], unfollowed := true, recurses := true, apart := false }
def HelloTimeSaid : Prop := helloTimeRow.holds Try.pinned (OpenSpec.ofChange helloTimeSpec)

/-- ITS FALSE NEIGHBOUR: 'it returns false'. Refute it at one input. -/
def helloTimeWrong : ChangeSpec := { name := "helloTime", fn := fun _ => fun
  | [d1, d2, d3, d4, d5] => { results := [.lit (.bool false)], args := [d1, d2, d3, d4, d5] }
  | _ => none }
def HelloTimeWrongFalsely : Prop := helloTimeRow.holds Try.pinned (OpenSpec.ofChange helloTimeWrong)

/- THE SECOND FORM. 'bulk': how many values and letters a reading holds, each counted each time it is reached (what is shared counts as often as it is met; a slice's spare places count too). A statement '..UptoSaid' is the law's where the arguments, and the package variables that the reading takes, are together of bulk at most 1048576: NARROWER than '..Said'. Prove '..Said' where nothing that the law and all that it calls make is longer than what came in: it says more and counts as full. Else prove '..UptoSaid'. A law counts once. -/
mutual
def uptoBulk {H : Type} : DataW H → Nat
  | .lit (.string bytes) => bytes.length + 1
  | .lit _ => 1
  | .nil => 1
  | .ptr d => uptoBulk d + 1
  | .slice elems spare => uptoBulkAll elems + uptoBulkAll spare + 1
  | .agg parts => uptoBulkAll parts + 1
  | .iface _ d => uptoBulk d + 1
  | .map entries => uptoBulkEntries entries + 1
  | .held _ => 1
def uptoBulkAll {H : Type} : List (DataW H) → Nat
  | [] => 0
  | d :: r => uptoBulk d + uptoBulkAll r
def uptoBulkEntries {H : Type} : List (Lit × DataW H) → Nat
  | [] => 0
  | x :: r => uptoBulkEntry x + uptoBulkEntries r
def uptoBulkEntry {H : Type} : Lit × DataW H → Nat
  | (.string bytes, d) => bytes.length + uptoBulk d + 1
  | (_, d) => uptoBulk d + 1
 end
def uptoSmall : (H : Type) → List (DataW H) → Bool := fun _ ds => decide (uptoBulkAll ds ≤ 1048576)
def OpenSpec.upto (s : _root_.Go.ChangeSpec) : _root_.Go.OpenSpec := { _root_.Go.OpenSpec.ofChange s with cond := some uptoSmall }

/-- 'routinglaw26.HelloReceives', WHERE WHAT IT READS IS OF BULK AT MOST 1048576: true; the input reads as it did. -/
def helloReceivesUptoRow : OpenClaim := { program := "yticijodoelphcaa", sum := "09b7ad73d6c3466f1a94105dfa90d7a57d1e99ab193c8b34e08fc51372eb312d", func := "routing/routinglaw26.HelloReceives", spec := "helloReceives", inPlace := ["slices.overlaps[routing/api.Neighbor]"], unfollowed := true, recurses := true, apart := false, narrowed := true }
def HelloReceivesUptoSaid : Prop := helloReceivesUptoRow.holds Try.pinned (OpenSpec.upto helloReceivesSpec)

/-- 'routinglaw26.HelloWants', WHERE WHAT IT READS IS OF BULK AT MOST 1048576: true; the input reads as it did. -/
def helloWantsUptoRow : OpenClaim := { program := "yticijodoelphcaa", sum := "09b7ad73d6c3466f1a94105dfa90d7a57d1e99ab193c8b34e08fc51372eb312d", func := "routing/routinglaw26.HelloWants", spec := "helloWants", inPlace := ["slices.overlaps[routing/api.Neighbor]"], unfollowed := true, recurses := true, apart := false, narrowed := true }
def HelloWantsUptoSaid : Prop := helloWantsUptoRow.holds Try.pinned (OpenSpec.upto helloWantsSpec)

/-- 'routinglaw26.HelloKeeps', WHERE WHAT IT READS IS OF BULK AT MOST 1048576: true; the input reads as it did. -/
def helloKeepsUptoRow : OpenClaim := { program := "yticijodoelphcaa", sum := "09b7ad73d6c3466f1a94105dfa90d7a57d1e99ab193c8b34e08fc51372eb312d", func := "routing/routinglaw26.HelloKeeps", spec := "helloKeeps", inPlace := ["slices.overlaps[routing/api.Neighbor]"], unfollowed := true, recurses := true, apart := false, narrowed := true }
def HelloKeepsUptoSaid : Prop := helloKeepsUptoRow.holds Try.pinned (OpenSpec.upto helloKeepsSpec)

/-- 'routinglaw26.HelloChecks', WHERE WHAT IT READS IS OF BULK AT MOST 1048576: true; the input reads as it did. -/
def helloChecksUptoRow : OpenClaim := { program := "yticijodoelphcaa", sum := "09b7ad73d6c3466f1a94105dfa90d7a57d1e99ab193c8b34e08fc51372eb312d", func := "routing/routinglaw26.HelloChecks", spec := "helloChecks", inPlace := ["slices.overlaps[routing/api.Neighbor]"], unfollowed := true, recurses := true, apart := false, narrowed := true }
def HelloChecksUptoSaid : Prop := helloChecksUptoRow.holds Try.pinned (OpenSpec.upto helloChecksSpec)

/-- 'routinglaw26.HelloTwoWay', WHERE WHAT IT READS IS OF BULK AT MOST 1048576: true; the input reads as it did. -/
def helloTwoWayUptoRow : OpenClaim := { program := "yticijodoelphcaa", sum := "09b7ad73d6c3466f1a94105dfa90d7a57d1e99ab193c8b34e08fc51372eb312d", func := "routing/routinglaw26.HelloTwoWay", spec := "helloTwoWay", inPlace := ["slices.overlaps[routing/api.Neighbor]"], unfollowed := true, recurses := true, apart := false, narrowed := true }
def HelloTwoWayUptoSaid : Prop := helloTwoWayUptoRow.holds Try.pinned (OpenSpec.upto helloTwoWaySpec)

/-- 'routinglaw26.HelloMakes', WHERE WHAT IT READS IS OF BULK AT MOST 1048576: true; the input reads as it did. -/
def helloMakesUptoRow : OpenClaim := { program := "yticijodoelphcaa", sum := "09b7ad73d6c3466f1a94105dfa90d7a57d1e99ab193c8b34e08fc51372eb312d", func := "routing/routinglaw26.HelloMakes", spec := "helloMakes", inPlace := ["slices.overlaps[routing/api.Neighbor]"], unfollowed := true, recurses := true, apart := false, narrowed := true }
def HelloMakesUptoSaid : Prop := helloMakesUptoRow.holds Try.pinned (OpenSpec.upto helloMakesSpec)

/-- 'routinglaw26.HelloTime', WHERE WHAT IT READS IS OF BULK AT MOST 1048576: true; the input reads as it did. -/
def helloTimeUptoRow : OpenClaim := { program := "yticijodoelphcaa", sum := "09b7ad73d6c3466f1a94105dfa90d7a57d1e99ab193c8b34e08fc51372eb312d", func := "routing/routinglaw26.HelloTime", spec := "helloTime", inPlace := ["slices.overlaps[routing/api.Neighbor]"], unfollowed := true, recurses := true, apart := false, narrowed := true }
def HelloTimeUptoSaid : Prop := helloTimeUptoRow.holds Try.pinned (OpenSpec.upto helloTimeSpec)

end Rows
end Go.Proofs.Yticijodoelphcaa
