/-
  No cell of these rows narrows 'for every input' (looked for: loops, veiled, ifaces, maps, wideKeys, modest, calm, conditions, laid).
  DERIVED. THE GIVEN ROWS OF THIS SEAT. 5 by the template 'for every input the law returns true; each argument reads behind the call as it read before'; 0 by the template 'total and deterministic' (their statements: YtpmmnnaaoideeaaTotals.lean).
  GIVEN WITH THE SEED: the statements are not yours to turn. If you find one false, say at which input.
  Laid BY PROGRAM, IN A SANDBOX (cutbox-rows.mjs): the forced cells as the released guide's own fill.sh prints them over the translation 94e00289034fc820… (all of the seat's roots in one cut). By AI agents, Wed Nov 11 2026. No macro, syntax, notation, axiom, sorry.
-/
import Derived.Test.YtpmmnnaaoideeaaChecked
import GoSem.Claim
import GoSem.ClaimJoined
import GoSem.ClaimMapViews
import Derived.JoinedTies
import Derived.KernelRfl
namespace Go.Proofs.Ytpmmnnaaoideeaa
/- THE CELL 'sum', in the pinned program and in every row, IS THE sha256 OF THE DUMP (.gsa) THAT YtpmmnnaaoideeaaProg.lean LOADS. Nothing in Lean hashes anything: it is a label: what it is worth is what the hold of that sum in a sandbox is worth. -/
noncomputable def Try.pinned : Pinned := { name := "ytpmmnnaaoideeaa", sum := "94e00289034fc8208be4d2c0aa5397b5b1c9b9588dc864d96ae1ac0f22fe8626", checked := Try.checked }
namespace Rows
def none {H : Type} : Left H := { results := [], args := [] }

/-- 'routinglaw47.TunnelChecks': WHATEVER THE INPUT: true; the input reads as it did. -/
def tunnelChecksSpec : ChangeSpec := { name := "tunnelChecks", fn := fun _ => fun
  | [d1, d2, d3] => { results := [.lit (.bool true)], args := [d1, d2, d3] }
  | _ => none }
def tunnelChecksRow : OpenClaim := { program := "ytpmmnnaaoideeaa", sum := "94e00289034fc8208be4d2c0aa5397b5b1c9b9588dc864d96ae1ac0f22fe8626", func := "routing/routinglaw47.TunnelChecks", spec := "tunnelChecks", inPlace := ["slices.overlaps[routing/api.Tunnel]"], unfollowed := true, recurses := true, apart := false }
def TunnelChecksSaid : Prop := tunnelChecksRow.holds Try.pinned (OpenSpec.ofChange tunnelChecksSpec)

/-- ITS FALSE NEIGHBOUR: 'it returns false'. Refute it at one input. -/
def tunnelChecksWrong : ChangeSpec := { name := "tunnelChecks", fn := fun _ => fun
  | [d1, d2, d3] => { results := [.lit (.bool false)], args := [d1, d2, d3] }
  | _ => none }
def TunnelChecksWrongFalsely : Prop := tunnelChecksRow.holds Try.pinned (OpenSpec.ofChange tunnelChecksWrong)

/-- 'routinglaw47.TunnelMoves': WHATEVER THE INPUT: true; the input reads as it did. -/
def tunnelMovesSpec : ChangeSpec := { name := "tunnelMoves", fn := fun _ => fun
  | [d1, d2] => { results := [.lit (.bool true)], args := [d1, d2] }
  | _ => none }
def tunnelMovesRow : OpenClaim := { program := "ytpmmnnaaoideeaa", sum := "94e00289034fc8208be4d2c0aa5397b5b1c9b9588dc864d96ae1ac0f22fe8626", func := "routing/routinglaw47.TunnelMoves", spec := "tunnelMoves", inPlace := ["slices.overlaps[routing/api.Tunnel]"], unfollowed := true, recurses := true, apart := false }
def TunnelMovesSaid : Prop := tunnelMovesRow.holds Try.pinned (OpenSpec.ofChange tunnelMovesSpec)

/-- ITS FALSE NEIGHBOUR: 'it returns false'. Refute it at one input. -/
def tunnelMovesWrong : ChangeSpec := { name := "tunnelMoves", fn := fun _ => fun
  | [d1, d2] => { results := [.lit (.bool false)], args := [d1, d2] }
  | _ => none }
def TunnelMovesWrongFalsely : Prop := tunnelMovesRow.holds Try.pinned (OpenSpec.ofChange tunnelMovesWrong)

/-- 'routinglaw47.TunnelVictims': WHATEVER THE INPUT: true; the input reads as it did. -/
def tunnelVictimsSpec : ChangeSpec := { name := "tunnelVictims", fn := fun _ => fun
  | [d1, d2, d3, d4] => { results := [.lit (.bool true)], args := [d1, d2, d3, d4] }
  | _ => none }
def tunnelVictimsRow : OpenClaim := { program := "ytpmmnnaaoideeaa", sum := "94e00289034fc8208be4d2c0aa5397b5b1c9b9588dc864d96ae1ac0f22fe8626", func := "routing/routinglaw47.TunnelVictims", spec := "tunnelVictims", inPlace := ["slices.overlaps[routing/api.Tunnel]"], unfollowed := true, recurses := true, apart := false }
def TunnelVictimsSaid : Prop := tunnelVictimsRow.holds Try.pinned (OpenSpec.ofChange tunnelVictimsSpec)

/-- ITS FALSE NEIGHBOUR: 'it returns false'. Refute it at one input. -/
def tunnelVictimsWrong : ChangeSpec := { name := "tunnelVictims", fn := fun _ => fun
  | [d1, d2, d3, d4] => { results := [.lit (.bool false)], args := [d1, d2, d3, d4] }
  | _ => none }
def TunnelVictimsWrongFalsely : Prop := tunnelVictimsRow.holds Try.pinned (OpenSpec.ofChange tunnelVictimsWrong)

/-- 'routinglaw47.TunnelBack': WHATEVER THE INPUT: true; the input reads as it did. -/
def tunnelBackSpec : ChangeSpec := { name := "tunnelBack", fn := fun _ => fun
  | [d1, d2] => { results := [.lit (.bool true)], args := [d1, d2] }
  | _ => none }
def tunnelBackRow : OpenClaim := { program := "ytpmmnnaaoideeaa", sum := "94e00289034fc8208be4d2c0aa5397b5b1c9b9588dc864d96ae1ac0f22fe8626", func := "routing/routinglaw47.TunnelBack", spec := "tunnelBack", inPlace := ["slices.overlaps[routing/api.Tunnel]"], unfollowed := true, recurses := true, apart := false }
def TunnelBackSaid : Prop := tunnelBackRow.holds Try.pinned (OpenSpec.ofChange tunnelBackSpec)

/-- ITS FALSE NEIGHBOUR: 'it returns false'. Refute it at one input. -/
def tunnelBackWrong : ChangeSpec := { name := "tunnelBack", fn := fun _ => fun
  | [d1, d2] => { results := [.lit (.bool false)], args := [d1, d2] }
  | _ => none }
def TunnelBackWrongFalsely : Prop := tunnelBackRow.holds Try.pinned (OpenSpec.ofChange tunnelBackWrong)

/-- 'routinglaw47.TunnelRoom': WHATEVER THE INPUT: true; the input reads as it did. -/
def tunnelRoomSpec : ChangeSpec := { name := "tunnelRoom", fn := fun _ => fun
  | [d1, d2, d3] => { results := [.lit (.bool true)], args := [d1, d2, d3] }
  | _ => none }
def tunnelRoomRow : OpenClaim := { program := "ytpmmnnaaoideeaa", sum := "94e00289034fc8208be4d2c0aa5397b5b1c9b9588dc864d96ae1ac0f22fe8626", func := "routing/routinglaw47.TunnelRoom", spec := "tunnelRoom", inPlace := ["slices.overlaps[routing/api.Tunnel]"], unfollowed := true, recurses := true, apart := false }
def TunnelRoomSaid : Prop := tunnelRoomRow.holds Try.pinned (OpenSpec.ofChange tunnelRoomSpec)

/-- ITS FALSE NEIGHBOUR: 'it returns false'. Refute it at one input. -/
def tunnelRoomWrong : ChangeSpec := { name := "tunnelRoom", fn := fun _ => fun
  | [d1, d2, d3] => { results := [.lit (.bool false)], args := [d1, d2, d3] }
  | _ => none }
def TunnelRoomWrongFalsely : Prop := tunnelRoomRow.holds Try.pinned (OpenSpec.ofChange tunnelRoomWrong)

/- THE SECOND FORM. 'bulk': how many values and letters a reading holds, each counted each time it is reached (what is shared counts as often as it is met; a slice's spare places count too). A statement '..UptoSaid' is the law's where the arguments, and the package variables that the reading takes, are together of bulk at most 1048576: NARROWER than '..Said'. Prove '..Said' where nothing that the law and all that it calls make is longer than what came in: it says more and counts as full. Else prove '..UptoSaid'. A law counts once. -/
mutual
def uptoBulk {H : Type} : DataW H → Nat
  | .lit (.string bytes) => bytes.length + 1
  | .lit _ => 1
  | .nil => 1
  | .ptr d => uptoBulk d + 1
  | .slice elems spare => uptoBulkAll elems + uptoBulkAll spare + 1
  | .agg parts => uptoBulkAll parts + 1
  | .iface _ d => uptoBulk d + 1
  | .map entries => uptoBulkEntries entries + 1
  | .held _ => 1
def uptoBulkAll {H : Type} : List (DataW H) → Nat
  | [] => 0
  | d :: r => uptoBulk d + uptoBulkAll r
def uptoBulkEntries {H : Type} : List (Lit × DataW H) → Nat
  | [] => 0
  | x :: r => uptoBulkEntry x + uptoBulkEntries r
def uptoBulkEntry {H : Type} : Lit × DataW H → Nat
  | (.string bytes, d) => bytes.length + uptoBulk d + 1
  | (_, d) => uptoBulk d + 1
 end
def uptoSmall : (H : Type) → List (DataW H) → Bool := fun _ ds => decide (uptoBulkAll ds ≤ 1048576)
def OpenSpec.upto (s : _root_.Go.ChangeSpec) : _root_.Go.OpenSpec := { _root_.Go.OpenSpec.ofChange s with cond := some uptoSmall }

/-- 'routinglaw47.TunnelChecks', WHERE WHAT IT READS IS OF BULK AT MOST 1048576: true; the input reads as it did. -/
def tunnelChecksUptoRow : OpenClaim := { program := "ytpmmnnaaoideeaa", sum := "94e00289034fc8208be4d2c0aa5397b5b1c9b9588dc864d96ae1ac0f22fe8626", func := "routing/routinglaw47.TunnelChecks", spec := "tunnelChecks", inPlace := ["slices.overlaps[routing/api.Tunnel]"], unfollowed := true, recurses := true, apart := false, narrowed := true }
def TunnelChecksUptoSaid : Prop := tunnelChecksUptoRow.holds Try.pinned (OpenSpec.upto tunnelChecksSpec)

/-- 'routinglaw47.TunnelMoves', WHERE WHAT IT READS IS OF BULK AT MOST 1048576: true; the input reads as it did. -/
def tunnelMovesUptoRow : OpenClaim := { program := "ytpmmnnaaoideeaa", sum := "94e00289034fc8208be4d2c0aa5397b5b1c9b9588dc864d96ae1ac0f22fe8626", func := "routing/routinglaw47.TunnelMoves", spec := "tunnelMoves", inPlace := ["slices.overlaps[routing/api.Tunnel]"], unfollowed := true, recurses := true, apart := false, narrowed := true }
def TunnelMovesUptoSaid : Prop := tunnelMovesUptoRow.holds Try.pinned (OpenSpec.upto tunnelMovesSpec)

/-- 'routinglaw47.TunnelVictims', WHERE WHAT IT READS IS OF BULK AT MOST 1048576: true; the input reads as it did. -/
def tunnelVictimsUptoRow : OpenClaim := { program := "ytpmmnnaaoideeaa", sum := "94e00289034fc8208be4d2c0aa5397b5b1c9b9588dc864d96ae1ac0f22fe8626", func := "routing/routinglaw47.TunnelVictims", spec := "tunnelVictims", inPlace := ["slices.overlaps[routing/api.Tunnel]"], unfollowed := true, recurses := true, apart := false, narrowed := true }
def TunnelVictimsUptoSaid : Prop := tunnelVictimsUptoRow.holds Try.pinned (OpenSpec.upto tunnelVictimsSpec)

/-- 'routinglaw47.TunnelBack', WHERE WHAT IT READS IS OF BULK AT MOST 1048576: true; the input reads as it did. -/
def tunnelBackUptoRow : OpenClaim := { program := "ytpmmnnaaoideeaa", sum := "94e00289034fc8208be4d2c0aa5397b5b1c9b9588dc864d96ae1ac0f22fe8626", func := "routing/routinglaw47.TunnelBack", spec := "tunnelBack", inPlace := ["slices.overlaps[routing/api.Tunnel]"], unfollowed := true, recurses := true, apart := false, narrowed := true }
def TunnelBackUptoSaid : Prop := tunnelBackUptoRow.holds Try.pinned (OpenSpec.upto tunnelBackSpec)

/-- 'routinglaw47.TunnelRoom', WHERE WHAT IT READS IS OF BULK AT MOST 1048576: true; the input reads as it did. -/
def tunnelRoomUptoRow : OpenClaim := { program := "ytpmmnnaaoideeaa", sum := "94e00289034fc8208be4d2c0aa5397b5b1c9b9588dc864d96ae1ac0f22fe8626", func := "routing/routinglaw47.TunnelRoom", spec := "tunnelRoom", inPlace := ["slices.overlaps[routing/api.Tunnel]"], unfollowed := true, recurses := true, apart := false, narrowed := true }
def TunnelRoomUptoSaid : Prop := tunnelRoomUptoRow.holds Try.pinned (OpenSpec.upto tunnelRoomSpec)

end Rows
end Go.Proofs.Ytpmmnnaaoideeaa
