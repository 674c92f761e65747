/- What the reader's message, choice and argument leave behind, as statements. No walk. -/
import Derived.Test.YtmfoiceofhcicaaGreatDoorMZ
import Derived.Test.YtmfoiceofhcicaaGreatDoorMC
import Derived.Test.YtmfoiceofhcicaaGreatDoorMK
import Derived.Test.YtmfoiceofhcicaaGreatDoorMS
import Derived.Test.YtmfoiceofhcicaaGreatDoorTR
namespace Go.Proofs.YtmfoiceofhcicaaGreatDoor
open Go.RowKit

theorem Lies.form {n : Nat} {S : Nat → Prop} {w : World} {v : Value} {l : List PT} (h : Lies n S w v l) : ∃ A m c, v = .slice A m c := by
  cases n with
  | zero => exact h.elim
  | succ n =>
    obtain ⟨_, _, ⟨A, c, rfl, _⟩, _⟩ := h
    exact ⟨_, _, _, rfl⟩
end Go.Proofs.YtmfoiceofhcicaaGreatDoor
