/- Walks: message of the reader of messages. -/
import Derived.Test.YtmfoiceofhcicaaGreatDoorML
import Derived.ScopeJumps
namespace Go.Proofs.YtmfoiceofhcicaaGreatDoor
open Go.RowKit

theorem ofFn_getM (t : Array Value) (n : Nat) (h : t.size = n) : t = Array.ofFn (fun i : Fin n => t.getD i undef) := by
  apply Array.ext
  · simp [h]
  · intro i h1 h2
    simp [Array.getD, h1]
set_option maxRecDepth 100000 in
theorem frame116 (t : Array Value) (h : t.size = 116) : ∃ u : Nat → Value, t = #[u 0, u 1, u 2, u 3, u 4, u 5, u 6, u 7, u 8, u 9, u 10, u 11, u 12, u 13, u 14, u 15, u 16, u 17, u 18, u 19, u 20, u 21, u 22, u 23, u 24, u 25, u 26, u 27, u 28, u 29, u 30, u 31, u 32, u 33, u 34, u 35, u 36, u 37, u 38, u 39, u 40, u 41, u 42, u 43, u 44, u 45, u 46, u 47, u 48, u 49, u 50, u 51, u 52, u 53, u 54, u 55, u 56, u 57, u 58, u 59, u 60, u 61, u 62, u 63, u 64, u 65, u 66, u 67, u 68, u 69, u 70, u 71, u 72, u 73, u 74, u 75, u 76, u 77, u 78, u 79, u 80, u 81, u 82, u 83, u 84, u 85, u 86, u 87, u 88, u 89, u 90, u 91, u 92, u 93, u 94, u 95, u 96, u 97, u 98, u 99, u 100, u 101, u 102, u 103, u 104, u 105, u 106, u 107, u 108, u 109, u 110, u 111, u 112, u 113, u 114, u 115] := ⟨fun i => t.getD i undef, (ofFn_getM t 116 h).trans (by kernel_rfl)⟩

theorem Keep.undraw {bs : List Nat} {w w' : World} {k : Nat} (h : Keep bs (w.drewN k) w') : Keep bs w w' := ⟨h.os, h.tape, h.output, h.size, h.block⟩
section
variable {F B g p0 d lb rb p n p' n' : Nat} {w0 w w' : World} {s : ByteArray} {v0 u v v' : Value} {hs : List Bool} {l : List PT} {S : Nat → Prop}
end
section
variable {F B g p0 d lb rb p n p' n2 : Nat} {w0 w w' W : World} {s : ByteArray} {v0 u v u' : Value} {hs : List Bool} {l l2 : List PT} {S : Nat → Prop}
end
theorem OwnM.more {F B : Nat} {S T : Nat → Prop} {w' : World} {v' : Value} {l : List PT} {vs : List Value} {a : PT} {cv : Value} (hu : vs.length = l.length) (ho : w'.ownsRow B 68 7 v' (l.length + 1) (partC l vs ++ a.cells cv))
    (h : ∀ (i : Nat) (p : PT) (c : Value), l[i]? = some p → vs[i]? = some c → LiesC F S w' c p.cs) (hc : LiesC F T w' cv a.cs) : OwnM F (fun b => S b ∨ T b) w' B v' (l ++ [a]) := by
  refine ⟨vs ++ [cv], by simp [hu], ?_, ?_⟩
  · rw [partC_append _ _ _ _ hu, List.length_append]
    simpa [partC] using ho
  · intro i d qv hj hq
    rcases Nat.lt_or_ge i l.length with hh | hh
    · rw [List.getElem?_append_left hh] at hj
      rw [List.getElem?_append_left (by omega)] at hq
      exact (h i d qv hj hq).mono (fun x hx => .inl hx)
    · rw [List.getElem?_append_right hh] at hj
      rw [List.getElem?_append_right (by omega), hu] at hq
      cases hi : i - l.length with
      | zero => rw [hi] at hj hq; simp at hj hq; subst hj; subst hq; exact hc.mono (fun x hx => .inr hx)
      | succ k => rw [hi] at hj; simp at hj
theorem liesC_form {n : Nat} {S : Nat → Prop} {w : World} {v : Value} {l : List CT} (h : LiesC n S w v l) : ∃ A m c, v = .slice A m c := by
  obtain ⟨_, _, ⟨A, c, rfl, _⟩, _⟩ := h
  exact ⟨_, _, _, rfl⟩
end Go.Proofs.YtmfoiceofhcicaaGreatDoor
