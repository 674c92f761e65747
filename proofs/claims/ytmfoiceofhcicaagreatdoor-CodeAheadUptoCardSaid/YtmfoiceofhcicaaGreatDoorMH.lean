/- Walks: argument of the reader of messages, at a choice. -/
import Derived.Test.YtmfoiceofhcicaaGreatDoorMG
namespace Go.Proofs.YtmfoiceofhcicaaGreatDoor
open Go.RowKit

end Go.Proofs.YtmfoiceofhcicaaGreatDoor
