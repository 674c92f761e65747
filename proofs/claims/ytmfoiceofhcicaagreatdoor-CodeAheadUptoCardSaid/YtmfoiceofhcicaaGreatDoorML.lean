/- Plain: what holds of the reader's steps; where two slices of a call's own lie. No walk. -/
import Derived.Test.YtmfoiceofhcicaaGreatDoorMA
namespace Go.Proofs.YtmfoiceofhcicaaGreatDoor
open Go.RowKit

theorem own_own_ne {w : World} {B B' size size' n n' : Nat} {e e' : TypeId} {v v' : Value} {xs xs' : List Value} (h : w.ownsRow B e size v n xs) (h' : w.ownsRow B' e' size' v' n' xs') (hne : e ≠ e') : ∀ x ∈ v.ownBlock.toList, x ∉ v'.ownBlock.toList := by
  intro x hx hx'
  rcases h.2 with ⟨rfl, _⟩ | ⟨g, cap, cur, rfl, _, hg, _⟩
  · simp [Value.ownBlock] at hx
  · rcases h'.2 with ⟨rfl, _⟩ | ⟨g', cap', cur', rfl, _, hg', _⟩
    · simp [Value.ownBlock] at hx'
    · simp [Value.ownBlock] at hx hx'
      subst hx; subst hx'
      rw [hg] at hg'
      injection hg' with h1
      injection h1 with _ h2
      exact hne h2
section
variable {s : ByteArray} {f d n p : Nat} {h : Bool} {l : List PT}
end
end Go.Proofs.YtmfoiceofhcicaaGreatDoor
