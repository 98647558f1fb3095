import Derived.Test.YtapgoboiljjecaaGreatDoorQE3c
set_option linter.unusedSimpArgs false
set_option linter.unusedVariables false
namespace Go.Proofs.YtapgoboiljjecaaGreatDoor
open Go Go.Am
theorem gE {α:Type} {l:List α} {i:Nat} {x:α} (hx:l[i]? = some x) (h:i < l.length):l[i]'h = x:=by
 rw [List.getElem?_eq_getElem h] at hx
 injection hx
end Go.Proofs.YtapgoboiljjecaaGreatDoor

namespace Go.Proofs.YtapgoboiljjecaaGreatDoor
open Go Go.Am
end Go.Proofs.YtapgoboiljjecaaGreatDoor

namespace Go.Proofs.YtapgoboiljjecaaGreatDoor
open Go Go.Am
end Go.Proofs.YtapgoboiljjecaaGreatDoor

namespace Go.Proofs.YtapgoboiljjecaaGreatDoor
open Go Go.Am
end Go.Proofs.YtapgoboiljjecaaGreatDoor

namespace Go.Proofs.YtapgoboiljjecaaGreatDoor
open Go Go.Am
end Go.Proofs.YtapgoboiljjecaaGreatDoor

namespace Go.Proofs.YtapgoboiljjecaaGreatDoor
open Go Go.Am
end Go.Proofs.YtapgoboiljjecaaGreatDoor

namespace Go.Proofs.YtapgoboiljjecaaGreatDoor
open Go Go.Am
end Go.Proofs.YtapgoboiljjecaaGreatDoor

namespace Go.Proofs.YtapgoboiljjecaaGreatDoor
open Go Go.Am
end Go.Proofs.YtapgoboiljjecaaGreatDoor

namespace Go.Proofs.YtapgoboiljjecaaGreatDoor
open Go Go.Am
end Go.Proofs.YtapgoboiljjecaaGreatDoor
