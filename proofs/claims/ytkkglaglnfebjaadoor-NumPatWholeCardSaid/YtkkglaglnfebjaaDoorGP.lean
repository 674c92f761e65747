/- Plain: digits in groups; strings in memory. -/
import Derived.Test.YtkkglaglnfebjaaDoorPP
import Derived.Lib.RowBridge
import Derived.Laws.IdiomCopy
namespace Go.Proofs.YtkkglaglnfebjaaDoor
open Go.RowKit

/-- The pieces ahead of the last one, the last of them first. -/
def piecesF (s : ByteArray) (g2 : Nat) : Nat → Nat → List ByteArray
  | 0, n => [s.extract 0 n]
  | f + 1, n => if g2 < n then s.extract (n - g2) n :: piecesF s g2 f (n - g2) else [s.extract 0 n]
def groupsL (p : PatD) (s : ByteArray) (least : Int) : List ByteArray :=
  if p.g = 0 ∨ (s.size : Int) - p.g < 1 ∨ (s.size : Int) - p.g < least then [s]
  else (s.extract (s.size - p.g.toNat) s.size :: piecesF s p.g2.toNat s.size (s.size - p.g.toNat)).reverse
theorem piecesF_len (s : ByteArray) (g2 : Nat) : ∀ f n, 0 < g2 → (piecesF s g2 f n).length ≤ n + 1
  | 0, n, _ => by simp [piecesF]
  | f + 1, n, h => by
    have := piecesF_len s g2 f (n - g2) h
    simp only [piecesF]
    split
    · simp only [List.length_cons]; omega
    · simp

/-- A slice of the call's own of strings. -/
def OwnS (w : World) (B : Nat) (v : Value) (l : List ByteArray) : Prop := w.ownsRow B 9 1 v l.length (l.map Value.string)
section
variable {w w' : World} {B : Nat} {v : Value} {l : List ByteArray} {bs : List Nat}
theorem OwnS.nil (w : World) (B : Nat) : OwnS w B (.slice none 0 0) [] := World.ownsRow_nil w B _ 1
theorem OwnS.lt (h : OwnS w B v l) : ∀ x ∈ v.ownBlock.toList, B ≤ x := fun x hx => (World.ownsRow.lt h x (by simpa using hx)).1
theorem OwnS.keep (h : OwnS w B v l) (hk : Keep bs w w') (hb : ∀ x ∈ v.ownBlock.toList, x ∉ bs) : OwnS w' B v l := by
  refine ⟨h.1, ?_⟩
  rcases h.2 with hn | ⟨g, cap, cur, rfl, hB, hg, rest⟩
  · exact .inl hn
  · refine .inr ⟨g, cap, cur, rfl, hB, ?_, rest⟩
    rw [hk.block g (Array.getElem?_eq_some_iff.1 hg).1 (hb g (by simp [Value.ownBlock]))]
    exact hg
theorem OwnS.form1 (h : OwnS w B v l) (hl : l ≠ []) : ∃ g cap, v = .slice (some ⟨g, 0, none⟩) l.length cap ∧ B ≤ g ∧ g < w.heap.size ∧ l.length ≤ cap ∧ cap ≤ maxLen ∧ (∀ i x, l[i]? = some x → w.cell? ⟨g, i, none⟩ = some (.string x)) ∧ ∀ i, w.frozen? ⟨g, i, none⟩ = false := by
  have h' := h
  rcases h.2 with ⟨rfl, h0⟩ | ⟨g, cap, cur, rfl, hB, hg, hn, hc, _⟩
  · exact absurd (List.eq_nil_of_length_eq_zero h0) hl
  · exact ⟨_, _, rfl, hB, (Array.getElem?_eq_some_iff.1 hg).1, hn, hc, fun i x hx => by
      have hi := (List.getElem?_eq_some_iff.1 hx).1
      rw [World.ownsRow.cellAt h' i (by omega), List.getElem?_map, hx]; rfl, fun i => World.ownsRow.frozenAt h' i⟩
/-- A slice of one string, made just now. -/
theorem OwnS.one (w : World) (n : Nat) (hn : w.heap.size = n) (x : ByteArray) : OwnS (w.alloc (.cells #[.string x] 9)) n (.slice (some ⟨n, 0, none⟩) 1 1) [x] := by
  subst hn
  exact ⟨rfl, .inr ⟨w.heap.size, 1, #[.string x], rfl, Nat.le_refl _, heap_alloc_new w _, Nat.le_refl _, by simp [maxLen], rfl, rfl⟩⟩
end

/-- The slice value v reads as these strings. -/
def RdS (w : World) (v : Value) (l : List ByteArray) : Prop :=
  ∃ A cap, v = .slice A l.length cap ∧ l.length ≤ cap ∧ cap ≤ maxLen ∧
    (l ≠ [] → ∃ g o, A = some ⟨g, o, none⟩ ∧ g < w.heap.size ∧ ∀ j x, l[j]? = some x → w.cell? ⟨g, o + j, none⟩ = some (.string x))
theorem RdS.keep_nil {w w' : World} {v : Value} {l : List ByteArray} (h : RdS w v l) (hk : Keep [] w w') : RdS w' v l := by
  obtain ⟨A, cap, rfl, h1, h2, h3⟩ := h
  refine ⟨A, cap, rfl, h1, h2, fun hl => ?_⟩
  obtain ⟨b, o, rfl, hlt, hc⟩ := h3 hl
  exact ⟨b, o, rfl, Nat.lt_of_lt_of_le hlt hk.size, fun j u hu => (hk.cell (p := ⟨b, o + j, none⟩) hlt (by simp)).trans (hc j u hu)⟩
theorem RdS.nil (w : World) : RdS w (.slice none 0 0) [] := ⟨none, 0, rfl, Nat.le_refl _, by simp [maxLen], fun h => absurd rfl h⟩
theorem OwnS.reads {w : World} {B : Nat} {v : Value} {l : List ByteArray} (h : OwnS w B v l) : RdS w v l := by
  by_cases h0 : l = []
  · subst h0
    rcases h.2 with ⟨rfl, _⟩ | ⟨g, cap, cur, rfl, hB, hg, hn, hc, _⟩
    · exact RdS.nil w
    · exact ⟨_, cap, rfl, hn, hc, fun h => absurd rfl h⟩
  · obtain ⟨g, cap, rfl, _, h1, h2, h3, h4, _⟩ := h.form1 h0
    exact ⟨_, cap, rfl, h2, h3, fun _ => ⟨g, 0, rfl, h1, fun j x hx => by rw [Nat.zero_add]; exact h4 j x hx⟩⟩
end Go.Proofs.YtkkglaglnfebjaaDoor
