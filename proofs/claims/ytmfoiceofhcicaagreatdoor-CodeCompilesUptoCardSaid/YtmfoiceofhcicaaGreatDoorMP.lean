/- Walks: number, count, inPlural, quotes of the reader of messages. -/
import Derived.Test.YtmfoiceofhcicaaGreatDoorMO
namespace Go.Proofs.YtmfoiceofhcicaaGreatDoor
open Go.RowKit

theorem byte_one (s : ByteArray) (q : Nat) (h : q < s.size) : allB digI (s.extract q (q + 1)) = digI (byt s q) := by
  have hsz : (s.extract q (q + 1)).size = 1 := by rw [ByteArray.size_extract]; omega
  have h0 : byt (s.extract q (q + 1)) 0 = byt s q := by
    rw [byt_in (by omega), byt_in h]
    congr 2
    simp [ByteArray.getElem_extract]
  unfold allB
  cases hd : digI (byt s q)
  · simp only [decide_eq_false_iff_not]
    intro hc
    have := hc.2 0 (by omega)
    rw [h0, hd] at this
    cases this
  · simp only [decide_eq_true_eq]
    refine ⟨by omega, fun j hj => ?_⟩
    have : j = 0 := by omega
    subst this
    rw [h0]; exact hd

end Go.Proofs.YtmfoiceofhcicaaGreatDoor
