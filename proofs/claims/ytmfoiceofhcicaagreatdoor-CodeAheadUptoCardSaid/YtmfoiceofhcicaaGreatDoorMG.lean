/- Walks: argument of the reader of messages: { name }. -/
import Derived.Test.YtmfoiceofhcicaaGreatDoorMY
namespace Go.Proofs.YtmfoiceofhcicaaGreatDoor
open Go.RowKit

theorem part_all {w : World} {b : Nat} {pt : PT} {cv : Value} (h : Blk w b 68 (pt.cells cv).toArray) :
    w.cell? ⟨b, 0, none⟩ = some (.int .i64 pt.k) ∧ w.cell? ⟨b, 1, none⟩ = some (.string pt.tx) ∧ w.cell? ⟨b, 2, none⟩ = some (.string pt.nm) ∧ w.cell? ⟨b, 3, none⟩ = some (.string pt.ty) ∧ w.cell? ⟨b, 4, none⟩ = some (.string pt.st) ∧ w.cell? ⟨b, 5, none⟩ = some (.int .i64 pt.off) ∧ w.cell? ⟨b, 6, none⟩ = some cv ∧ ∀ i, w.frozen? ⟨b, i, none⟩ = false :=
  ⟨h.cell_eq rfl, h.cell_eq rfl, h.cell_eq rfl, h.cell_eq rfl, h.cell_eq rfl, h.cell_eq rfl, h.cell_eq rfl, h.frozen⟩
end Go.Proofs.YtmfoiceofhcicaaGreatDoor
