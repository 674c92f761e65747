/- Walks: argument of the reader of messages: { name }. -/
import Derived.Test.YtmfoiceofhcicaaGreatDoorMY
namespace Go.Proofs.YtmfoiceofhcicaaGreatDoor
open Go.RowKit

theorem skip_at {s : ByteArray} {q : Nat} (h : blI (byt s q) = false) : skip s q = q := by
  unfold skip
  cases s.size - q with
  | zero => rfl
  | succ f => unfold spanF; rw [h]; rfl
/-- A part of its kind and its name. -/
def nameP (k : Int) (nm ty st : ByteArray) : PT := ⟨k, ⟨#[]⟩, nm, ty, st, 0, []⟩
theorem part_all {w : World} {b : Nat} {pt : PT} {cv : Value} (h : Blk w b 68 (pt.cells cv).toArray) :
    w.cell? ⟨b, 0, none⟩ = some (.int .i64 pt.k) ∧ w.cell? ⟨b, 1, none⟩ = some (.string pt.tx) ∧ w.cell? ⟨b, 2, none⟩ = some (.string pt.nm) ∧ w.cell? ⟨b, 3, none⟩ = some (.string pt.ty) ∧ w.cell? ⟨b, 4, none⟩ = some (.string pt.st) ∧ w.cell? ⟨b, 5, none⟩ = some (.int .i64 pt.off) ∧ w.cell? ⟨b, 6, none⟩ = some cv ∧ ∀ i, w.frozen? ⟨b, i, none⟩ = false :=
  ⟨h.cell_eq rfl, h.cell_eq rfl, h.cell_eq rfl, h.cell_eq rfl, h.cell_eq rfl, h.cell_eq rfl, h.cell_eq rfl, h.frozen⟩
/-- A whole part stored into a block of one. -/
def storeP (w : World) (b : Nat) (pt : PT) (cv : Value) : World :=
  ((((((w.setCell ⟨b, 0, none⟩ (.int .i64 pt.k)).setCell ⟨b, 1, none⟩ (.string pt.tx)).setCell ⟨b, 2, none⟩ (.string pt.nm)).setCell ⟨b, 3, none⟩ (.string pt.ty)).setCell ⟨b, 4, none⟩ (.string pt.st)).setCell ⟨b, 5, none⟩ (.int .i64 pt.off)).setCell ⟨b, 6, none⟩ cv
theorem storeP_blk {w : World} {b : Nat} {pt0 : PT} {cv0 : Value} (h : Blk w b 68 (pt0.cells cv0).toArray) (pt : PT) (cv : Value) : Blk (storeP w b pt cv) b 68 (pt.cells cv).toArray := by
  have h7 := Blk.set_ (Blk.set_ (Blk.set_ (Blk.set_ (Blk.set_ (Blk.set_ (Blk.set_ h 0 (.int .i64 pt.k)) 1 (.string pt.tx)) 2 (.string pt.nm)) 3 (.string pt.ty)) 4 (.string pt.st)) 5 (.int .i64 pt.off)) 6 cv
  have he : ((((((((pt0.cells cv0).toArray.setIfInBounds 0 (.int .i64 pt.k)).setIfInBounds 1 (.string pt.tx)).setIfInBounds 2 (.string pt.nm)).setIfInBounds 3 (.string pt.ty)).setIfInBounds 4 (.string pt.st)).setIfInBounds 5 (.int .i64 pt.off)).setIfInBounds 6 cv) = (pt.cells cv).toArray := by simp [PT.cells]
  rw [he] at h7
  exact h7
theorem storeP_keep (w : World) (b : Nat) (pt : PT) (cv : Value) : Keep [b] w (storeP w b pt cv) :=
  (((((((Keep.refl [b] w).setCell (p := ⟨b, 0, none⟩) (.inl (by simp)) _).setCell (p := ⟨b, 1, none⟩) (.inl (by simp)) _).setCell (p := ⟨b, 2, none⟩) (.inl (by simp)) _).setCell (p := ⟨b, 3, none⟩) (.inl (by simp)) _).setCell (p := ⟨b, 4, none⟩) (.inl (by simp)) _).setCell (p := ⟨b, 5, none⟩) (.inl (by simp)) _).setCell (p := ⟨b, 6, none⟩) (.inl (by simp)) _

end Go.Proofs.YtmfoiceofhcicaaGreatDoor
