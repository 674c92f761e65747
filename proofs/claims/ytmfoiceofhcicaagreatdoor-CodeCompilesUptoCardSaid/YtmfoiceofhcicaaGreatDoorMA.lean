/- argument of the reader of messages, whatever stands there, where the plain answer is a part. -/
import Derived.Test.YtmfoiceofhcicaaGreatDoorMH
import Derived.Test.YtmfoiceofhcicaaGreatDoorMG
namespace Go.Proofs.YtmfoiceofhcicaaGreatDoor
open Go.RowKit

theorem wtest (wd : ByteArray) (l : List UInt8) : (wd.toList == l) = decide (wd = ⟨l.toArray⟩) := by
  have := bytes_beq wd ⟨l.toArray⟩
  rw [toList_lit l] at this
  exact this
theorem types_ne {wd : ByteArray} (h : memW typesW wd = true) : wd.toList.isEmpty = false := by
  refine not_empty fun h0 => ?_
  have hm := (memW_iff typesW wd).1 h
  simp only [typesW, List.mem_cons, List.not_mem_nil, or_false] at hm
  rcases hm with rfl | rfl | rfl | rfl | rfl | rfl | rfl <;> exact absurd h0 (by decide)
end Go.Proofs.YtmfoiceofhcicaaGreatDoor
