/- argument of the reader of messages, whatever stands there, where the plain answer is a part. -/
import Derived.Test.YtmfoiceofhcicaaGreatDoorMH
import Derived.Test.YtmfoiceofhcicaaGreatDoorMG
namespace Go.Proofs.YtmfoiceofhcicaaGreatDoor
open Go.RowKit

end Go.Proofs.YtmfoiceofhcicaaGreatDoor
