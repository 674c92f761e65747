/- Walks: the small methods of the reader of messages. -/
import Derived.Test.YtmfoiceofhcicaaGreatDoorMU
import Derived.Test.YtmfoiceofhcicaaGreatDoorBK
import Derived.Deep.RegionHeld3
import Derived.StillTailTactics
import Derived.WalkSmall
namespace Go.Proofs.YtmfoiceofhcicaaGreatDoor
open Go.RowKit

section
variable {w w' : World} {g : Nat} {s : ByteArray} {p n d : Nat} {v : Value} {bs : List Nat}
end
def rdrAt (w : World) (g : Nat) : Nat := match w.cell? ⟨g, 1, none⟩ with | some (.int _ n) => n.toNat | _ => 0
end Go.Proofs.YtmfoiceofhcicaaGreatDoor
