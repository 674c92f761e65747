/- Walks: the small methods of the reader of messages. -/
import Derived.Test.YtmfoiceofhcicaaGreatDoorMU
import Derived.Test.YtmfoiceofhcicaaGreatDoorBK
import Derived.Deep.RegionHeld3
import Derived.StillTailTactics
import Derived.WalkSmall
namespace Go.Proofs.YtmfoiceofhcicaaGreatDoor
open Go.RowKit

section
variable {w w' : World} {g : Nat} {s : ByteArray} {p n d : Nat} {v : Value} {bs : List Nat}
end
end Go.Proofs.YtmfoiceofhcicaaGreatDoor
