/- Walks: message of the reader of messages. -/
import Derived.Test.YtmfoiceofhcicaaGreatDoorML
import Derived.ScopeJumps
namespace Go.Proofs.YtmfoiceofhcicaaGreatDoor
open Go.RowKit

section
variable {F B g p0 d lb rb p n p' n' : Nat} {w0 w w' : World} {s : ByteArray} {v0 u v v' : Value} {hs : List Bool} {l : List PT} {S : Nat → Prop}
end
section
variable {F B g p0 d lb rb p n p' n2 : Nat} {w0 w w' W : World} {s : ByteArray} {v0 u v u' : Value} {hs : List Bool} {l l2 : List PT} {S : Nat → Prop}
end
theorem OwnM.more {F B : Nat} {S T : Nat → Prop} {w' : World} {v' : Value} {l : List PT} {vs : List Value} {a : PT} {cv : Value} (hu : vs.length = l.length) (ho : w'.ownsRow B 68 7 v' (l.length + 1) (partC l vs ++ a.cells cv))
    (h : ∀ (i : Nat) (p : PT) (c : Value), l[i]? = some p → vs[i]? = some c → LiesC F S w' c p.cs) (hc : LiesC F T w' cv a.cs) : OwnM F (fun b => S b ∨ T b) w' B v' (l ++ [a]) := by
  refine ⟨vs ++ [cv], by simp [hu], ?_, ?_⟩
  · rw [partC_append _ _ _ _ hu, List.length_append]
    simpa [partC] using ho
  · intro i d qv hj hq
    rcases Nat.lt_or_ge i l.length with hh | hh
    · rw [List.getElem?_append_left hh] at hj
      rw [List.getElem?_append_left (by omega)] at hq
      exact (h i d qv hj hq).mono (fun x hx => .inl hx)
    · rw [List.getElem?_append_right hh] at hj
      rw [List.getElem?_append_right (by omega), hu] at hq
      cases hi : i - l.length with
      | zero => rw [hi] at hj hq; simp at hj hq; subst hj; subst hq; exact hc.mono (fun x hx => .inr hx)
      | succ k => rw [hi] at hj; simp at hj
end Go.Proofs.YtmfoiceofhcicaaGreatDoor
