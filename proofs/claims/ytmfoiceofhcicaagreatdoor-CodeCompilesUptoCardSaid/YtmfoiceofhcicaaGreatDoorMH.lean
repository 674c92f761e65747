/- Walks: argument of the reader of messages, at a choice. -/
import Derived.Test.YtmfoiceofhcicaaGreatDoorMG
namespace Go.Proofs.YtmfoiceofhcicaaGreatDoor
open Go.RowKit

theorem toList_lit (l : List UInt8) : ByteArray.toList ⟨l.toArray⟩ = l := by rw [ByteArray.toList_eq]

end Go.Proofs.YtmfoiceofhcicaaGreatDoor
