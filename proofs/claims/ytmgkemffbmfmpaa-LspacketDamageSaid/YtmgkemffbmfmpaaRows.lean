/-
  No cell of these rows narrows 'for every input' (looked for: loops, veiled, ifaces, maps, wideKeys, modest, calm, conditions, laid).
  DERIVED. THE GIVEN ROWS OF THIS SEAT. 13 by the template 'for every input the law returns true; each argument reads behind the call as it read before'; 0 by the template 'total and deterministic' (their statements: YtmgkemffbmfmpaaTotals.lean).
  GIVEN WITH THE SEED: the statements are not yours to turn. If you find one false, say at which input.
  Laid BY PROGRAM, IN A SANDBOX (cutbox-rows.mjs): the forced cells as the released guide's own fill.sh prints them over the translation 1ed31fc34b68e068… (all of the seat's roots in one cut). By AI agents, Wed Nov 11 2026. No macro, syntax, notation, axiom, sorry.
-/
import Derived.Test.YtmgkemffbmfmpaaChecked
import GoSem.Claim
import GoSem.ClaimJoined
import GoSem.ClaimMapViews
import Derived.JoinedTies
import Derived.KernelRfl
namespace Go.Proofs.Ytmgkemffbmfmpaa
/- THE CELL 'sum', in the pinned program and in every row, IS THE sha256 OF THE DUMP (.gsa) THAT YtmgkemffbmfmpaaProg.lean LOADS. Nothing in Lean hashes anything: it is a label: what it is worth is what the hold of that sum in a sandbox is worth. -/
noncomputable def Try.pinned : Pinned := { name := "ytmgkemffbmfmpaa", sum := "1ed31fc34b68e068df81d36108f36deffbd5e3c97db1c67195f90e693652816e", checked := Try.checked }
namespace Rows
def none {H : Type} : Left H := { results := [], args := [] }

/-- 'routinglaw24.LspacketChecks': WHATEVER THE INPUT: true; the input reads as it did. -/
def lspacketChecksSpec : ChangeSpec := { name := "lspacketChecks", fn := fun _ => fun
  | [d] => { results := [.lit (.bool true)], args := [d] }
  | _ => none }
def lspacketChecksRow : OpenClaim := { program := "ytmgkemffbmfmpaa", sum := "1ed31fc34b68e068df81d36108f36deffbd5e3c97db1c67195f90e693652816e", func := "routing/routinglaw24.LspacketChecks", spec := "lspacketChecks", unfollowed := true, recurses := true, apart := false }
def LspacketChecksSaid : Prop := lspacketChecksRow.holds Try.pinned (OpenSpec.ofChange lspacketChecksSpec)

/-- ITS FALSE NEIGHBOUR: 'it returns false'. Refute it at one input. -/
def lspacketChecksWrong : ChangeSpec := { name := "lspacketChecks", fn := fun _ => fun
  | [d] => { results := [.lit (.bool false)], args := [d] }
  | _ => none }
def LspacketChecksWrongFalsely : Prop := lspacketChecksRow.holds Try.pinned (OpenSpec.ofChange lspacketChecksWrong)

/-- 'routinglaw24.LspacketEncodes': WHATEVER THE INPUT: true; the input reads as it did. -/
def lspacketEncodesSpec : ChangeSpec := { name := "lspacketEncodes", fn := fun _ => fun
  | [d] => { results := [.lit (.bool true)], args := [d] }
  | _ => none }
def lspacketEncodesRow : OpenClaim := { program := "ytmgkemffbmfmpaa", sum := "1ed31fc34b68e068df81d36108f36deffbd5e3c97db1c67195f90e693652816e", func := "routing/routinglaw24.LspacketEncodes", spec := "lspacketEncodes", unfollowed := true, recurses := true, apart := false }
def LspacketEncodesSaid : Prop := lspacketEncodesRow.holds Try.pinned (OpenSpec.ofChange lspacketEncodesSpec)

/-- ITS FALSE NEIGHBOUR: 'it returns false'. Refute it at one input. -/
def lspacketEncodesWrong : ChangeSpec := { name := "lspacketEncodes", fn := fun _ => fun
  | [d] => { results := [.lit (.bool false)], args := [d] }
  | _ => none }
def LspacketEncodesWrongFalsely : Prop := lspacketEncodesRow.holds Try.pinned (OpenSpec.ofChange lspacketEncodesWrong)

/-- 'routinglaw24.LspacketSame': WHATEVER THE INPUT: true; the input reads as it did. -/
def lspacketSameSpec : ChangeSpec := { name := "lspacketSame", fn := fun _ => fun
  | [d1, d2] => { results := [.lit (.bool true)], args := [d1, d2] }
  | _ => none }
def lspacketSameRow : OpenClaim := { program := "ytmgkemffbmfmpaa", sum := "1ed31fc34b68e068df81d36108f36deffbd5e3c97db1c67195f90e693652816e", func := "routing/routinglaw24.LspacketSame", spec := "lspacketSame", unfollowed := true, recurses := true, apart := false }
def LspacketSameSaid : Prop := lspacketSameRow.holds Try.pinned (OpenSpec.ofChange lspacketSameSpec)

/-- ITS FALSE NEIGHBOUR: 'it returns false'. Refute it at one input. -/
def lspacketSameWrong : ChangeSpec := { name := "lspacketSame", fn := fun _ => fun
  | [d1, d2] => { results := [.lit (.bool false)], args := [d1, d2] }
  | _ => none }
def LspacketSameWrongFalsely : Prop := lspacketSameRow.holds Try.pinned (OpenSpec.ofChange lspacketSameWrong)

/-- 'routinglaw25.LsdbPuts': WHATEVER THE INPUT: true; the input reads as it did. -/
def lsdbPutsSpec : ChangeSpec := { name := "lsdbPuts", fn := fun _ => fun
  | [d1, d2] => { results := [.lit (.bool true)], args := [d1, d2] }
  | _ => none }
def lsdbPutsRow : OpenClaim := { program := "ytmgkemffbmfmpaa", sum := "1ed31fc34b68e068df81d36108f36deffbd5e3c97db1c67195f90e693652816e", func := "routing/routinglaw25.LsdbPuts", spec := "lsdbPuts", inPlace := ["slices.overlaps[routing/api.LSA]"], unfollowed := true, recurses := true, apart := false }
def LsdbPutsSaid : Prop := lsdbPutsRow.holds Try.pinned (OpenSpec.ofChange lsdbPutsSpec)

/-- ITS FALSE NEIGHBOUR: 'it returns false'. Refute it at one input. -/
def lsdbPutsWrong : ChangeSpec := { name := "lsdbPuts", fn := fun _ => fun
  | [d1, d2] => { results := [.lit (.bool false)], args := [d1, d2] }
  | _ => none }
def LsdbPutsWrongFalsely : Prop := lsdbPutsRow.holds Try.pinned (OpenSpec.ofChange lsdbPutsWrong)

/-- 'routinglaw25.LsdbAdvances': WHATEVER THE INPUT: true; the input reads as it did. -/
def lsdbAdvancesSpec : ChangeSpec := { name := "lsdbAdvances", fn := fun _ => fun
  | [d1, d2] => { results := [.lit (.bool true)], args := [d1, d2] }
  | _ => none }
def lsdbAdvancesRow : OpenClaim := { program := "ytmgkemffbmfmpaa", sum := "1ed31fc34b68e068df81d36108f36deffbd5e3c97db1c67195f90e693652816e", func := "routing/routinglaw25.LsdbAdvances", spec := "lsdbAdvances", inPlace := ["slices.overlaps[routing/api.LSA]"], unfollowed := true, recurses := true, apart := false }
def LsdbAdvancesSaid : Prop := lsdbAdvancesRow.holds Try.pinned (OpenSpec.ofChange lsdbAdvancesSpec)

/-- ITS FALSE NEIGHBOUR: 'it returns false'. Refute it at one input. -/
def lsdbAdvancesWrong : ChangeSpec := { name := "lsdbAdvances", fn := fun _ => fun
  | [d1, d2] => { results := [.lit (.bool false)], args := [d1, d2] }
  | _ => none }
def LsdbAdvancesWrongFalsely : Prop := lsdbAdvancesRow.holds Try.pinned (OpenSpec.ofChange lsdbAdvancesWrong)

/-- 'routinglaw25.LsdbChecks': WHATEVER THE INPUT: true; the input reads as it did. -/
def lsdbChecksSpec : ChangeSpec := { name := "lsdbChecks", fn := fun _ => fun
  | [d] => { results := [.lit (.bool true)], args := [d] }
  | _ => none }
def lsdbChecksRow : OpenClaim := { program := "ytmgkemffbmfmpaa", sum := "1ed31fc34b68e068df81d36108f36deffbd5e3c97db1c67195f90e693652816e", func := "routing/routinglaw25.LsdbChecks", spec := "lsdbChecks", inPlace := ["slices.overlaps[routing/api.LSA]"], unfollowed := true, recurses := true, apart := false }
def LsdbChecksSaid : Prop := lsdbChecksRow.holds Try.pinned (OpenSpec.ofChange lsdbChecksSpec)

/-- ITS FALSE NEIGHBOUR: 'it returns false'. Refute it at one input. -/
def lsdbChecksWrong : ChangeSpec := { name := "lsdbChecks", fn := fun _ => fun
  | [d] => { results := [.lit (.bool false)], args := [d] }
  | _ => none }
def LsdbChecksWrongFalsely : Prop := lsdbChecksRow.holds Try.pinned (OpenSpec.ofChange lsdbChecksWrong)

/-- 'routinglaw25.LsdbNewest': WHATEVER THE INPUT: true; the input reads as it did. -/
def lsdbNewestSpec : ChangeSpec := { name := "lsdbNewest", fn := fun _ => fun
  | [d] => { results := [.lit (.bool true)], args := [d] }
  | _ => none }
def lsdbNewestRow : OpenClaim := { program := "ytmgkemffbmfmpaa", sum := "1ed31fc34b68e068df81d36108f36deffbd5e3c97db1c67195f90e693652816e", func := "routing/routinglaw25.LsdbNewest", spec := "lsdbNewest", inPlace := ["slices.overlaps[routing/api.LSA]"], unfollowed := true, recurses := true, apart := false }
def LsdbNewestSaid : Prop := lsdbNewestRow.holds Try.pinned (OpenSpec.ofChange lsdbNewestSpec)

/-- ITS FALSE NEIGHBOUR: 'it returns false'. Refute it at one input. -/
def lsdbNewestWrong : ChangeSpec := { name := "lsdbNewest", fn := fun _ => fun
  | [d] => { results := [.lit (.bool false)], args := [d] }
  | _ => none }
def LsdbNewestWrongFalsely : Prop := lsdbNewestRow.holds Try.pinned (OpenSpec.ofChange lsdbNewestWrong)

/-- 'routinglaw25.LsdbAges': WHATEVER THE INPUT: true; the input reads as it did. -/
def lsdbAgesSpec : ChangeSpec := { name := "lsdbAges", fn := fun _ => fun
  | [d1, d2, d3] => { results := [.lit (.bool true)], args := [d1, d2, d3] }
  | _ => none }
def lsdbAgesRow : OpenClaim := { program := "ytmgkemffbmfmpaa", sum := "1ed31fc34b68e068df81d36108f36deffbd5e3c97db1c67195f90e693652816e", func := "routing/routinglaw25.LsdbAges", spec := "lsdbAges", inPlace := ["slices.overlaps[routing/api.LSA]"], unfollowed := true, recurses := true, apart := false }
def LsdbAgesSaid : Prop := lsdbAgesRow.holds Try.pinned (OpenSpec.ofChange lsdbAgesSpec)

/-- ITS FALSE NEIGHBOUR: 'it returns false'. Refute it at one input. -/
def lsdbAgesWrong : ChangeSpec := { name := "lsdbAges", fn := fun _ => fun
  | [d1, d2, d3] => { results := [.lit (.bool false)], args := [d1, d2, d3] }
  | _ => none }
def LsdbAgesWrongFalsely : Prop := lsdbAgesRow.holds Try.pinned (OpenSpec.ofChange lsdbAgesWrong)

/-- 'routinglaw25.LsdbAsks': WHATEVER THE INPUT: true; the input reads as it did. -/
def lsdbAsksSpec : ChangeSpec := { name := "lsdbAsks", fn := fun _ => fun
  | [d1, d2, d3] => { results := [.lit (.bool true)], args := [d1, d2, d3] }
  | _ => none }
def lsdbAsksRow : OpenClaim := { program := "ytmgkemffbmfmpaa", sum := "1ed31fc34b68e068df81d36108f36deffbd5e3c97db1c67195f90e693652816e", func := "routing/routinglaw25.LsdbAsks", spec := "lsdbAsks", inPlace := ["slices.overlaps[routing/api.LSA]"], unfollowed := true, recurses := true, apart := false }
def LsdbAsksSaid : Prop := lsdbAsksRow.holds Try.pinned (OpenSpec.ofChange lsdbAsksSpec)

/-- ITS FALSE NEIGHBOUR: 'it returns false'. Refute it at one input. -/
def lsdbAsksWrong : ChangeSpec := { name := "lsdbAsks", fn := fun _ => fun
  | [d1, d2, d3] => { results := [.lit (.bool false)], args := [d1, d2, d3] }
  | _ => none }
def LsdbAsksWrongFalsely : Prop := lsdbAsksRow.holds Try.pinned (OpenSpec.ofChange lsdbAsksWrong)

/-- 'routinglaw25.LsdbCompares': WHATEVER THE INPUT: true; the input reads as it did. -/
def lsdbComparesSpec : ChangeSpec := { name := "lsdbCompares", fn := fun _ => fun
  | [d1, d2, d3] => { results := [.lit (.bool true)], args := [d1, d2, d3] }
  | _ => none }
def lsdbComparesRow : OpenClaim := { program := "ytmgkemffbmfmpaa", sum := "1ed31fc34b68e068df81d36108f36deffbd5e3c97db1c67195f90e693652816e", func := "routing/routinglaw25.LsdbCompares", spec := "lsdbCompares", inPlace := ["slices.overlaps[routing/api.LSA]"], unfollowed := true, recurses := true, apart := false }
def LsdbComparesSaid : Prop := lsdbComparesRow.holds Try.pinned (OpenSpec.ofChange lsdbComparesSpec)

/-- ITS FALSE NEIGHBOUR: 'it returns false'. Refute it at one input. -/
def lsdbComparesWrong : ChangeSpec := { name := "lsdbCompares", fn := fun _ => fun
  | [d1, d2, d3] => { results := [.lit (.bool false)], args := [d1, d2, d3] }
  | _ => none }
def LsdbComparesWrongFalsely : Prop := lsdbComparesRow.holds Try.pinned (OpenSpec.ofChange lsdbComparesWrong)

/-- 'routinglaw25.LsdbKeeps': WHATEVER THE INPUT: true; the input reads as it did. -/
def lsdbKeepsSpec : ChangeSpec := { name := "lsdbKeeps", fn := fun _ => fun
  | [d1, d2, d3] => { results := [.lit (.bool true)], args := [d1, d2, d3] }
  | _ => none }
def lsdbKeepsRow : OpenClaim := { program := "ytmgkemffbmfmpaa", sum := "1ed31fc34b68e068df81d36108f36deffbd5e3c97db1c67195f90e693652816e", func := "routing/routinglaw25.LsdbKeeps", spec := "lsdbKeeps", inPlace := ["slices.overlaps[routing/api.LSA]"], unfollowed := true, recurses := true, apart := false }
def LsdbKeepsSaid : Prop := lsdbKeepsRow.holds Try.pinned (OpenSpec.ofChange lsdbKeepsSpec)

/-- ITS FALSE NEIGHBOUR: 'it returns false'. Refute it at one input. -/
def lsdbKeepsWrong : ChangeSpec := { name := "lsdbKeeps", fn := fun _ => fun
  | [d1, d2, d3] => { results := [.lit (.bool false)], args := [d1, d2, d3] }
  | _ => none }
def LsdbKeepsWrongFalsely : Prop := lsdbKeepsRow.holds Try.pinned (OpenSpec.ofChange lsdbKeepsWrong)

/-- 'routinglaw24.LspacketBack': WHATEVER THE INPUT: true; the input reads as it did. -/
def lspacketBackSpec : ChangeSpec := { name := "lspacketBack", fn := fun _ => fun
  | [d1, d2] => { results := [.lit (.bool true)], args := [d1, d2] }
  | _ => none }
def lspacketBackRow : OpenClaim := { program := "ytmgkemffbmfmpaa", sum := "1ed31fc34b68e068df81d36108f36deffbd5e3c97db1c67195f90e693652816e", func := "routing/routinglaw24.LspacketBack", spec := "lspacketBack", unfollowed := true, recurses := true, apart := false }
def LspacketBackSaid : Prop := lspacketBackRow.holds Try.pinned (OpenSpec.ofChange lspacketBackSpec)

/-- ITS FALSE NEIGHBOUR: 'it returns false'. Refute it at one input. -/
def lspacketBackWrong : ChangeSpec := { name := "lspacketBack", fn := fun _ => fun
  | [d1, d2] => { results := [.lit (.bool false)], args := [d1, d2] }
  | _ => none }
def LspacketBackWrongFalsely : Prop := lspacketBackRow.holds Try.pinned (OpenSpec.ofChange lspacketBackWrong)

/-- 'routinglaw24.LspacketDamage': WHATEVER THE INPUT: true; the input reads as it did. -/
def lspacketDamageSpec : ChangeSpec := { name := "lspacketDamage", fn := fun _ => fun
  | [d1, d2, d3] => { results := [.lit (.bool true)], args := [d1, d2, d3] }
  | _ => none }
def lspacketDamageRow : OpenClaim := { program := "ytmgkemffbmfmpaa", sum := "1ed31fc34b68e068df81d36108f36deffbd5e3c97db1c67195f90e693652816e", func := "routing/routinglaw24.LspacketDamage", spec := "lspacketDamage", unfollowed := true, recurses := true, apart := false }
def LspacketDamageSaid : Prop := lspacketDamageRow.holds Try.pinned (OpenSpec.ofChange lspacketDamageSpec)

/-- ITS FALSE NEIGHBOUR: 'it returns false'. Refute it at one input. -/
def lspacketDamageWrong : ChangeSpec := { name := "lspacketDamage", fn := fun _ => fun
  | [d1, d2, d3] => { results := [.lit (.bool false)], args := [d1, d2, d3] }
  | _ => none }
def LspacketDamageWrongFalsely : Prop := lspacketDamageRow.holds Try.pinned (OpenSpec.ofChange lspacketDamageWrong)

/- THE SECOND FORM. 'bulk': how many values and letters a reading holds, each counted each time it is reached (what is shared counts as often as it is met; a slice's spare places count too). A statement '..UptoSaid' is the law's where the arguments, and the package variables that the reading takes, are together of bulk at most 1048576: NARROWER than '..Said'. Prove '..Said' where nothing that the law and all that it calls make is longer than what came in: it says more and counts as full. Else prove '..UptoSaid'. A law counts once. -/
mutual
def uptoBulk {H : Type} : DataW H → Nat
  | .lit (.string bytes) => bytes.length + 1
  | .lit _ => 1
  | .nil => 1
  | .ptr d => uptoBulk d + 1
  | .slice elems spare => uptoBulkAll elems + uptoBulkAll spare + 1
  | .agg parts => uptoBulkAll parts + 1
  | .iface _ d => uptoBulk d + 1
  | .map entries => uptoBulkEntries entries + 1
  | .held _ => 1
def uptoBulkAll {H : Type} : List (DataW H) → Nat
  | [] => 0
  | d :: r => uptoBulk d + uptoBulkAll r
def uptoBulkEntries {H : Type} : List (Lit × DataW H) → Nat
  | [] => 0
  | x :: r => uptoBulkEntry x + uptoBulkEntries r
def uptoBulkEntry {H : Type} : Lit × DataW H → Nat
  | (.string bytes, d) => bytes.length + uptoBulk d + 1
  | (_, d) => uptoBulk d + 1
 end
def uptoSmall : (H : Type) → List (DataW H) → Bool := fun _ ds => decide (uptoBulkAll ds ≤ 1048576)
def OpenSpec.upto (s : _root_.Go.ChangeSpec) : _root_.Go.OpenSpec := { _root_.Go.OpenSpec.ofChange s with cond := some uptoSmall }

/-- 'routinglaw24.LspacketChecks', WHERE WHAT IT READS IS OF BULK AT MOST 1048576: true; the input reads as it did. -/
def lspacketChecksUptoRow : OpenClaim := { program := "ytmgkemffbmfmpaa", sum := "1ed31fc34b68e068df81d36108f36deffbd5e3c97db1c67195f90e693652816e", func := "routing/routinglaw24.LspacketChecks", spec := "lspacketChecks", unfollowed := true, recurses := true, apart := false, narrowed := true }
def LspacketChecksUptoSaid : Prop := lspacketChecksUptoRow.holds Try.pinned (OpenSpec.upto lspacketChecksSpec)

/-- 'routinglaw24.LspacketEncodes', WHERE WHAT IT READS IS OF BULK AT MOST 1048576: true; the input reads as it did. -/
def lspacketEncodesUptoRow : OpenClaim := { program := "ytmgkemffbmfmpaa", sum := "1ed31fc34b68e068df81d36108f36deffbd5e3c97db1c67195f90e693652816e", func := "routing/routinglaw24.LspacketEncodes", spec := "lspacketEncodes", unfollowed := true, recurses := true, apart := false, narrowed := true }
def LspacketEncodesUptoSaid : Prop := lspacketEncodesUptoRow.holds Try.pinned (OpenSpec.upto lspacketEncodesSpec)

/-- 'routinglaw24.LspacketSame', WHERE WHAT IT READS IS OF BULK AT MOST 1048576: true; the input reads as it did. -/
def lspacketSameUptoRow : OpenClaim := { program := "ytmgkemffbmfmpaa", sum := "1ed31fc34b68e068df81d36108f36deffbd5e3c97db1c67195f90e693652816e", func := "routing/routinglaw24.LspacketSame", spec := "lspacketSame", unfollowed := true, recurses := true, apart := false, narrowed := true }
def LspacketSameUptoSaid : Prop := lspacketSameUptoRow.holds Try.pinned (OpenSpec.upto lspacketSameSpec)

/-- 'routinglaw25.LsdbPuts', WHERE WHAT IT READS IS OF BULK AT MOST 1048576: true; the input reads as it did. -/
def lsdbPutsUptoRow : OpenClaim := { program := "ytmgkemffbmfmpaa", sum := "1ed31fc34b68e068df81d36108f36deffbd5e3c97db1c67195f90e693652816e", func := "routing/routinglaw25.LsdbPuts", spec := "lsdbPuts", inPlace := ["slices.overlaps[routing/api.LSA]"], unfollowed := true, recurses := true, apart := false, narrowed := true }
def LsdbPutsUptoSaid : Prop := lsdbPutsUptoRow.holds Try.pinned (OpenSpec.upto lsdbPutsSpec)

/-- 'routinglaw25.LsdbAdvances', WHERE WHAT IT READS IS OF BULK AT MOST 1048576: true; the input reads as it did. -/
def lsdbAdvancesUptoRow : OpenClaim := { program := "ytmgkemffbmfmpaa", sum := "1ed31fc34b68e068df81d36108f36deffbd5e3c97db1c67195f90e693652816e", func := "routing/routinglaw25.LsdbAdvances", spec := "lsdbAdvances", inPlace := ["slices.overlaps[routing/api.LSA]"], unfollowed := true, recurses := true, apart := false, narrowed := true }
def LsdbAdvancesUptoSaid : Prop := lsdbAdvancesUptoRow.holds Try.pinned (OpenSpec.upto lsdbAdvancesSpec)

/-- 'routinglaw25.LsdbChecks', WHERE WHAT IT READS IS OF BULK AT MOST 1048576: true; the input reads as it did. -/
def lsdbChecksUptoRow : OpenClaim := { program := "ytmgkemffbmfmpaa", sum := "1ed31fc34b68e068df81d36108f36deffbd5e3c97db1c67195f90e693652816e", func := "routing/routinglaw25.LsdbChecks", spec := "lsdbChecks", inPlace := ["slices.overlaps[routing/api.LSA]"], unfollowed := true, recurses := true, apart := false, narrowed := true }
def LsdbChecksUptoSaid : Prop := lsdbChecksUptoRow.holds Try.pinned (OpenSpec.upto lsdbChecksSpec)

/-- 'routinglaw25.LsdbNewest', WHERE WHAT IT READS IS OF BULK AT MOST 1048576: true; the input reads as it did. -/
def lsdbNewestUptoRow : OpenClaim := { program := "ytmgkemffbmfmpaa", sum := "1ed31fc34b68e068df81d36108f36deffbd5e3c97db1c67195f90e693652816e", func := "routing/routinglaw25.LsdbNewest", spec := "lsdbNewest", inPlace := ["slices.overlaps[routing/api.LSA]"], unfollowed := true, recurses := true, apart := false, narrowed := true }
def LsdbNewestUptoSaid : Prop := lsdbNewestUptoRow.holds Try.pinned (OpenSpec.upto lsdbNewestSpec)

/-- 'routinglaw25.LsdbAges', WHERE WHAT IT READS IS OF BULK AT MOST 1048576: true; the input reads as it did. -/
def lsdbAgesUptoRow : OpenClaim := { program := "ytmgkemffbmfmpaa", sum := "1ed31fc34b68e068df81d36108f36deffbd5e3c97db1c67195f90e693652816e", func := "routing/routinglaw25.LsdbAges", spec := "lsdbAges", inPlace := ["slices.overlaps[routing/api.LSA]"], unfollowed := true, recurses := true, apart := false, narrowed := true }
def LsdbAgesUptoSaid : Prop := lsdbAgesUptoRow.holds Try.pinned (OpenSpec.upto lsdbAgesSpec)

/-- 'routinglaw25.LsdbAsks', WHERE WHAT IT READS IS OF BULK AT MOST 1048576: true; the input reads as it did. -/
def lsdbAsksUptoRow : OpenClaim := { program := "ytmgkemffbmfmpaa", sum := "1ed31fc34b68e068df81d36108f36deffbd5e3c97db1c67195f90e693652816e", func := "routing/routinglaw25.LsdbAsks", spec := "lsdbAsks", inPlace := ["slices.overlaps[routing/api.LSA]"], unfollowed := true, recurses := true, apart := false, narrowed := true }
def LsdbAsksUptoSaid : Prop := lsdbAsksUptoRow.holds Try.pinned (OpenSpec.upto lsdbAsksSpec)

/-- 'routinglaw25.LsdbCompares', WHERE WHAT IT READS IS OF BULK AT MOST 1048576: true; the input reads as it did. -/
def lsdbComparesUptoRow : OpenClaim := { program := "ytmgkemffbmfmpaa", sum := "1ed31fc34b68e068df81d36108f36deffbd5e3c97db1c67195f90e693652816e", func := "routing/routinglaw25.LsdbCompares", spec := "lsdbCompares", inPlace := ["slices.overlaps[routing/api.LSA]"], unfollowed := true, recurses := true, apart := false, narrowed := true }
def LsdbComparesUptoSaid : Prop := lsdbComparesUptoRow.holds Try.pinned (OpenSpec.upto lsdbComparesSpec)

/-- 'routinglaw25.LsdbKeeps', WHERE WHAT IT READS IS OF BULK AT MOST 1048576: true; the input reads as it did. -/
def lsdbKeepsUptoRow : OpenClaim := { program := "ytmgkemffbmfmpaa", sum := "1ed31fc34b68e068df81d36108f36deffbd5e3c97db1c67195f90e693652816e", func := "routing/routinglaw25.LsdbKeeps", spec := "lsdbKeeps", inPlace := ["slices.overlaps[routing/api.LSA]"], unfollowed := true, recurses := true, apart := false, narrowed := true }
def LsdbKeepsUptoSaid : Prop := lsdbKeepsUptoRow.holds Try.pinned (OpenSpec.upto lsdbKeepsSpec)

/-- 'routinglaw24.LspacketBack', WHERE WHAT IT READS IS OF BULK AT MOST 1048576: true; the input reads as it did. -/
def lspacketBackUptoRow : OpenClaim := { program := "ytmgkemffbmfmpaa", sum := "1ed31fc34b68e068df81d36108f36deffbd5e3c97db1c67195f90e693652816e", func := "routing/routinglaw24.LspacketBack", spec := "lspacketBack", unfollowed := true, recurses := true, apart := false, narrowed := true }
def LspacketBackUptoSaid : Prop := lspacketBackUptoRow.holds Try.pinned (OpenSpec.upto lspacketBackSpec)

/-- 'routinglaw24.LspacketDamage', WHERE WHAT IT READS IS OF BULK AT MOST 1048576: true; the input reads as it did. -/
def lspacketDamageUptoRow : OpenClaim := { program := "ytmgkemffbmfmpaa", sum := "1ed31fc34b68e068df81d36108f36deffbd5e3c97db1c67195f90e693652816e", func := "routing/routinglaw24.LspacketDamage", spec := "lspacketDamage", unfollowed := true, recurses := true, apart := false, narrowed := true }
def LspacketDamageUptoSaid : Prop := lspacketDamageUptoRow.holds Try.pinned (OpenSpec.upto lspacketDamageSpec)

end Rows
end Go.Proofs.Ytmgkemffbmfmpaa
