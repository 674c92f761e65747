/- Walks: number, count, inPlural, quotes of the reader of messages. -/
import Derived.Test.YtmfoiceofhcicaaGreatDoorMO
namespace Go.Proofs.YtmfoiceofhcicaaGreatDoor
open Go.RowKit

end Go.Proofs.YtmfoiceofhcicaaGreatDoor
