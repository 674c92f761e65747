/- Walks: put, of the reader of messages. -/
import Derived.Test.YtmfoiceofhcicaaGreatDoorMS
import Derived.Deep.AppendLies
namespace Go.Proofs.YtmfoiceofhcicaaGreatDoor
open Go.RowKit

theorem new_cells (w : World) (n : Nat) (hn : w.heap.size = n) (xs : List Value) (t : TypeId) : ∀ j u, xs[j]? = some u → (w.alloc (.cells xs.toArray t)).cell? ((⟨n, 0, none⟩ : Addr).add j) = some u := by
  intro j u hu
  have hadd : (⟨n, 0, none⟩ : Addr).add j = ⟨n, j, none⟩ := by unfold Addr.add; split <;> simp_all
  rw [hadd]
  exact (Blk.new' w t xs.toArray n hn).cell_eq (by simpa using hu)
end Go.Proofs.YtmfoiceofhcicaaGreatDoor
