/-
  No cell of these rows narrows 'for every input' (looked for: loops, veiled, ifaces, maps, wideKeys, modest, calm, conditions, laid).
  DERIVED. THE GIVEN ROWS OF THIS SEAT. 5 by the template 'for every input the law returns true; each argument reads behind the call as it read before'; 0 by the template 'total and deterministic' (their statements: YtlpgadlfpigbhaaTotals.lean).
  GIVEN WITH THE SEED: the statements are not yours to turn. If you find one false, say at which input.
  Laid BY PROGRAM, IN A SANDBOX (cutbox-rows.mjs): the forced cells as the released guide's own fill.sh prints them over the translation 33480ea7c9b8881b… (all of the seat's roots in one cut). By AI agents, Wed Nov 11 2026. No macro, syntax, notation, axiom, sorry.
-/
import Derived.Test.YtlpgadlfpigbhaaChecked
import GoSem.Claim
import GoSem.ClaimJoined
import GoSem.ClaimMapViews
import Derived.JoinedTies
import Derived.KernelRfl
namespace Go.Proofs.Ytlpgadlfpigbhaa
/- THE CELL 'sum', in the pinned program and in every row, IS THE sha256 OF THE DUMP (.gsa) THAT YtlpgadlfpigbhaaProg.lean LOADS. Nothing in Lean hashes anything: it is a label: what it is worth is what the hold of that sum in a sandbox is worth. -/
noncomputable def Try.pinned : Pinned := { name := "ytlpgadlfpigbhaa", sum := "33480ea7c9b8881bf5855fcac425cc63d1898f742ed56133dd85d31a26d7c7cb", checked := Try.checked }
namespace Rows
def none {H : Type} : Left H := { results := [], args := [] }

/-- 'routinglaw44.LabelsAll': WHATEVER THE INPUT: true; the input reads as it did. -/
def labelsAllSpec : ChangeSpec := { name := "labelsAll", fn := fun _ => fun
  | [d] => { results := [.lit (.bool true)], args := [d] }
  | _ => none }
def labelsAllRow : OpenClaim := { program := "ytlpgadlfpigbhaa", sum := "33480ea7c9b8881bf5855fcac425cc63d1898f742ed56133dd85d31a26d7c7cb", func := "routing/routinglaw44.LabelsAll", spec := "labelsAll", inPlace := ["slices.overlaps[routing/api.Binding]"], unfollowed := true, recurses := true, apart := false }
def LabelsAllSaid : Prop := labelsAllRow.holds Try.pinned (OpenSpec.ofChange labelsAllSpec)

/-- ITS FALSE NEIGHBOUR: 'it returns false'. Refute it at one input. -/
def labelsAllWrong : ChangeSpec := { name := "labelsAll", fn := fun _ => fun
  | [d] => { results := [.lit (.bool false)], args := [d] }
  | _ => none }
def LabelsAllWrongFalsely : Prop := labelsAllRow.holds Try.pinned (OpenSpec.ofChange labelsAllWrong)

/-- 'routinglaw44.LabelsRuns': WHATEVER THE INPUT: true; the input reads as it did. -/
def labelsRunsSpec : ChangeSpec := { name := "labelsRuns", fn := fun _ => fun
  | [d1, d2] => { results := [.lit (.bool true)], args := [d1, d2] }
  | _ => none }
def labelsRunsRow : OpenClaim := { program := "ytlpgadlfpigbhaa", sum := "33480ea7c9b8881bf5855fcac425cc63d1898f742ed56133dd85d31a26d7c7cb", func := "routing/routinglaw44.LabelsRuns", spec := "labelsRuns", inPlace := ["slices.overlaps[routing/api.Binding]"], unfollowed := true, recurses := true, apart := false }
def LabelsRunsSaid : Prop := labelsRunsRow.holds Try.pinned (OpenSpec.ofChange labelsRunsSpec)

/-- ITS FALSE NEIGHBOUR: 'it returns false'. Refute it at one input. -/
def labelsRunsWrong : ChangeSpec := { name := "labelsRuns", fn := fun _ => fun
  | [d1, d2] => { results := [.lit (.bool false)], args := [d1, d2] }
  | _ => none }
def LabelsRunsWrongFalsely : Prop := labelsRunsRow.holds Try.pinned (OpenSpec.ofChange labelsRunsWrong)

/-- 'routinglaw44.LabelsBack': WHATEVER THE INPUT: true; the input reads as it did. -/
def labelsBackSpec : ChangeSpec := { name := "labelsBack", fn := fun _ => fun
  | [d] => { results := [.lit (.bool true)], args := [d] }
  | _ => none }
def labelsBackRow : OpenClaim := { program := "ytlpgadlfpigbhaa", sum := "33480ea7c9b8881bf5855fcac425cc63d1898f742ed56133dd85d31a26d7c7cb", func := "routing/routinglaw44.LabelsBack", spec := "labelsBack", inPlace := ["slices.overlaps[routing/api.Binding]"], unfollowed := true, recurses := true, apart := false }
def LabelsBackSaid : Prop := labelsBackRow.holds Try.pinned (OpenSpec.ofChange labelsBackSpec)

/-- ITS FALSE NEIGHBOUR: 'it returns false'. Refute it at one input. -/
def labelsBackWrong : ChangeSpec := { name := "labelsBack", fn := fun _ => fun
  | [d] => { results := [.lit (.bool false)], args := [d] }
  | _ => none }
def LabelsBackWrongFalsely : Prop := labelsBackRow.holds Try.pinned (OpenSpec.ofChange labelsBackWrong)

/-- 'routinglaw44.LabelsBindings': WHATEVER THE INPUT: true; the input reads as it did. -/
def labelsBindingsSpec : ChangeSpec := { name := "labelsBindings", fn := fun _ => fun
  | [d1, d2] => { results := [.lit (.bool true)], args := [d1, d2] }
  | _ => none }
def labelsBindingsRow : OpenClaim := { program := "ytlpgadlfpigbhaa", sum := "33480ea7c9b8881bf5855fcac425cc63d1898f742ed56133dd85d31a26d7c7cb", func := "routing/routinglaw44.LabelsBindings", spec := "labelsBindings", inPlace := ["slices.overlaps[routing/api.Binding]"], unfollowed := true, recurses := true, apart := false }
def LabelsBindingsSaid : Prop := labelsBindingsRow.holds Try.pinned (OpenSpec.ofChange labelsBindingsSpec)

/-- ITS FALSE NEIGHBOUR: 'it returns false'. Refute it at one input. -/
def labelsBindingsWrong : ChangeSpec := { name := "labelsBindings", fn := fun _ => fun
  | [d1, d2] => { results := [.lit (.bool false)], args := [d1, d2] }
  | _ => none }
def LabelsBindingsWrongFalsely : Prop := labelsBindingsRow.holds Try.pinned (OpenSpec.ofChange labelsBindingsWrong)

/-- 'routinglaw44.LabelsOrder': WHATEVER THE INPUT: true; the input reads as it did. -/
def labelsOrderSpec : ChangeSpec := { name := "labelsOrder", fn := fun _ => fun
  | [d1, d2] => { results := [.lit (.bool true)], args := [d1, d2] }
  | _ => none }
def labelsOrderRow : OpenClaim := { program := "ytlpgadlfpigbhaa", sum := "33480ea7c9b8881bf5855fcac425cc63d1898f742ed56133dd85d31a26d7c7cb", func := "routing/routinglaw44.LabelsOrder", spec := "labelsOrder", inPlace := ["slices.overlaps[routing/api.Binding]"], unfollowed := true, recurses := true, apart := false }
def LabelsOrderSaid : Prop := labelsOrderRow.holds Try.pinned (OpenSpec.ofChange labelsOrderSpec)

/-- ITS FALSE NEIGHBOUR: 'it returns false'. Refute it at one input. -/
def labelsOrderWrong : ChangeSpec := { name := "labelsOrder", fn := fun _ => fun
  | [d1, d2] => { results := [.lit (.bool false)], args := [d1, d2] }
  | _ => none }
def LabelsOrderWrongFalsely : Prop := labelsOrderRow.holds Try.pinned (OpenSpec.ofChange labelsOrderWrong)

/- THE SECOND FORM. 'bulk': how many values and letters a reading holds, each counted each time it is reached (what is shared counts as often as it is met; a slice's spare places count too). A statement '..UptoSaid' is the law's where the arguments, and the package variables that the reading takes, are together of bulk at most 1048576: NARROWER than '..Said'. Prove '..Said' where nothing that the law and all that it calls make is longer than what came in: it says more and counts as full. Else prove '..UptoSaid'. A law counts once. -/
mutual
def uptoBulk {H : Type} : DataW H → Nat
  | .lit (.string bytes) => bytes.length + 1
  | .lit _ => 1
  | .nil => 1
  | .ptr d => uptoBulk d + 1
  | .slice elems spare => uptoBulkAll elems + uptoBulkAll spare + 1
  | .agg parts => uptoBulkAll parts + 1
  | .iface _ d => uptoBulk d + 1
  | .map entries => uptoBulkEntries entries + 1
  | .held _ => 1
def uptoBulkAll {H : Type} : List (DataW H) → Nat
  | [] => 0
  | d :: r => uptoBulk d + uptoBulkAll r
def uptoBulkEntries {H : Type} : List (Lit × DataW H) → Nat
  | [] => 0
  | x :: r => uptoBulkEntry x + uptoBulkEntries r
def uptoBulkEntry {H : Type} : Lit × DataW H → Nat
  | (.string bytes, d) => bytes.length + uptoBulk d + 1
  | (_, d) => uptoBulk d + 1
 end
def uptoSmall : (H : Type) → List (DataW H) → Bool := fun _ ds => decide (uptoBulkAll ds ≤ 1048576)
def OpenSpec.upto (s : _root_.Go.ChangeSpec) : _root_.Go.OpenSpec := { _root_.Go.OpenSpec.ofChange s with cond := some uptoSmall }

/-- 'routinglaw44.LabelsAll', WHERE WHAT IT READS IS OF BULK AT MOST 1048576: true; the input reads as it did. -/
def labelsAllUptoRow : OpenClaim := { program := "ytlpgadlfpigbhaa", sum := "33480ea7c9b8881bf5855fcac425cc63d1898f742ed56133dd85d31a26d7c7cb", func := "routing/routinglaw44.LabelsAll", spec := "labelsAll", inPlace := ["slices.overlaps[routing/api.Binding]"], unfollowed := true, recurses := true, apart := false, narrowed := true }
def LabelsAllUptoSaid : Prop := labelsAllUptoRow.holds Try.pinned (OpenSpec.upto labelsAllSpec)

/-- 'routinglaw44.LabelsRuns', WHERE WHAT IT READS IS OF BULK AT MOST 1048576: true; the input reads as it did. -/
def labelsRunsUptoRow : OpenClaim := { program := "ytlpgadlfpigbhaa", sum := "33480ea7c9b8881bf5855fcac425cc63d1898f742ed56133dd85d31a26d7c7cb", func := "routing/routinglaw44.LabelsRuns", spec := "labelsRuns", inPlace := ["slices.overlaps[routing/api.Binding]"], unfollowed := true, recurses := true, apart := false, narrowed := true }
def LabelsRunsUptoSaid : Prop := labelsRunsUptoRow.holds Try.pinned (OpenSpec.upto labelsRunsSpec)

/-- 'routinglaw44.LabelsBack', WHERE WHAT IT READS IS OF BULK AT MOST 1048576: true; the input reads as it did. -/
def labelsBackUptoRow : OpenClaim := { program := "ytlpgadlfpigbhaa", sum := "33480ea7c9b8881bf5855fcac425cc63d1898f742ed56133dd85d31a26d7c7cb", func := "routing/routinglaw44.LabelsBack", spec := "labelsBack", inPlace := ["slices.overlaps[routing/api.Binding]"], unfollowed := true, recurses := true, apart := false, narrowed := true }
def LabelsBackUptoSaid : Prop := labelsBackUptoRow.holds Try.pinned (OpenSpec.upto labelsBackSpec)

/-- 'routinglaw44.LabelsBindings', WHERE WHAT IT READS IS OF BULK AT MOST 1048576: true; the input reads as it did. -/
def labelsBindingsUptoRow : OpenClaim := { program := "ytlpgadlfpigbhaa", sum := "33480ea7c9b8881bf5855fcac425cc63d1898f742ed56133dd85d31a26d7c7cb", func := "routing/routinglaw44.LabelsBindings", spec := "labelsBindings", inPlace := ["slices.overlaps[routing/api.Binding]"], unfollowed := true, recurses := true, apart := false, narrowed := true }
def LabelsBindingsUptoSaid : Prop := labelsBindingsUptoRow.holds Try.pinned (OpenSpec.upto labelsBindingsSpec)

/-- 'routinglaw44.LabelsOrder', WHERE WHAT IT READS IS OF BULK AT MOST 1048576: true; the input reads as it did. -/
def labelsOrderUptoRow : OpenClaim := { program := "ytlpgadlfpigbhaa", sum := "33480ea7c9b8881bf5855fcac425cc63d1898f742ed56133dd85d31a26d7c7cb", func := "routing/routinglaw44.LabelsOrder", spec := "labelsOrder", inPlace := ["slices.overlaps[routing/api.Binding]"], unfollowed := true, recurses := true, apart := false, narrowed := true }
def LabelsOrderUptoSaid : Prop := labelsOrderUptoRow.holds Try.pinned (OpenSpec.upto labelsOrderSpec)

end Rows
end Go.Proofs.Ytlpgadlfpigbhaa
