/- Walks: vernacularref02's kinds of bytes, vernacularref15's numbers and words, vernacularref19's names, keys, styles, types. Walks: vernacularref19.Trim, isStyle, isKey, Find, Digits. Walks: vernacularref19.Form: parts in their one form. -/
import Derived.Test.YtjldgcpmdcoejaaGreatDoorQI
import Derived.Test.YtjldgcpmdcoejaaGreatDoorQD
import Derived.Test.YtjldgcpmdcoejaaGreatDoorRT
import Derived.Test.YtjldgcpmdcoejaaGreatDoorTR
import Derived.Test.YtjldgcpmdcoejaaGreatDoorMC
import Derived.Test.YtjldgcpmdcoejaaGreatDoorPB
import Derived.Lib.ItoaMem
import Derived.Lib.ItoaLen
import Derived.Test.YtjldgcpmdcoejaaGreatDoorPZ
namespace Go.Proofs.YtjldgcpmdcoejaaGreatDoor
open Go.RowKit

/-! ### names -/
/-! ### numbers and words -/
end Go.Proofs.YtjldgcpmdcoejaaGreatDoor

namespace Go.Proofs.YtjldgcpmdcoejaaGreatDoor
open Go.RowKit

end Go.Proofs.YtjldgcpmdcoejaaGreatDoor

namespace Go.Proofs.YtjldgcpmdcoejaaGreatDoor
open Go.RowKit

def kindOK (p : PT) : Prop := offOK p ∧ 1 ≤ p.k ∧ p.k ≤ 6
theorem allK_off : ∀ (n : Nat) (l : List PT), allO kindOK n l → allO offOK n l
  | 0, _, _ => trivial
  | n + 1, _, h => fun p hp => ⟨(h p hp).1.1, fun c hc => allK_off n c.2 ((h p hp).2 c hc)⟩
end Go.Proofs.YtjldgcpmdcoejaaGreatDoor
