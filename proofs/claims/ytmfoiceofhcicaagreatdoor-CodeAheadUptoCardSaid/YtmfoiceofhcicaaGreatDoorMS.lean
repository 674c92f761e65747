/- Walks: count, inPlural, quotes of the reader of messages. -/
import Derived.Test.YtmfoiceofhcicaaGreatDoorMP
namespace Go.Proofs.YtmfoiceofhcicaaGreatDoor
open Go.RowKit

/-- The slice v of whether # is a number: the call's own, its block from B on. -/
def Hs (B : Nat) (w : World) (v : Value) (hs : List Bool) : Prop := w.ownsRow B 4 1 v hs.length (hs.map Value.bool)
theorem Hs.nil (B : Nat) (w : World) : Hs B w (.slice none 0 0) [] := World.ownsRow_nil w B _ 1
theorem Hs.keep {B : Nat} {w w' : World} {v : Value} {hs : List Bool} {bs : List Nat} (h : Hs B w v hs) (hk : Keep bs w w') (hb : ∀ x ∈ v.ownBlock.toList, x ∉ bs) : Hs B w' v hs := ownsRow_keep h hk hb
theorem Hs.form {B : Nat} {w : World} {v : Value} {hs : List Bool} (h : Hs B w v hs) : ∃ A cap, v = .slice A hs.length cap ∧ (hs ≠ [] → ∃ b, A = some ⟨b, 0, none⟩ ∧ ∀ i x, hs[i]? = some x → w.cell? ⟨b, i, none⟩ = some (.bool x)) := by
  rcases h.2 with ⟨rfl, h0⟩ | ⟨g, cap, cur, rfl, hB, hg, hn, hc, hsz, htk⟩
  · exact ⟨none, 0, by rw [h0], fun hl => absurd (List.eq_nil_of_length_eq_zero h0) hl⟩
  · refine ⟨_, _, rfl, fun _ => ⟨g, rfl, fun i x hi => ?_⟩⟩
    have hlt := (List.getElem?_eq_some_iff.1 hi).1
    rw [World.ownsRow.cellAt h i (by omega), List.getElem?_map, hi]; rfl

end Go.Proofs.YtmfoiceofhcicaaGreatDoor
