/- Walks: count, inPlural, quotes of the reader of messages. -/
import Derived.Test.YtjldgcpmdcoejaaGreatDoorMP
namespace Go.Proofs.YtjldgcpmdcoejaaGreatDoor
open Go.RowKit

set_option maxRecDepth 100000 in
set_option maxHeartbeats 400000 in
/-- count, where there is room. -/
theorem count_yes (w : World) (g : Nat) (s : ByteArray) (p n d : Nat) (v : Value) (o : Nat) (h : Rr w g s p n d v) (hn : n < 1024) :
    Calls Tryz.prog 67 #[.pointer (some ⟨g, 0, none⟩), .int .i64 o] w fun x w' => x = .returned (.tuple #[]) ∧ Rr w' g s p (n + 1) d v ∧ Keep [g] w w' := by
  have H := Lib.hid h
  obtain ⟨c0, c1, c2, c3, c4, f1, f2, f3, f4⟩ := h.cells
  have e1 : ((n : Int) == 1024) = false := by simp; omega
  clear h
  go_enter Tryz.func67, Tryz.ntmps67
  go_wp2
  go_end0
  exact ⟨rfl, H.out.setN _ _ (by omega), (Keep.refl _ _).setCell (.inl (by simp)) _⟩
set_option maxRecDepth 100000 in
set_option maxHeartbeats 400000 in
/-- count, where there is none. -/
theorem count_no (w : World) (g : Nat) (s : ByteArray) (p d : Nat) (v : Value) (o : Nat) (h : Rr w g s p 1024 d v) :
    Calls Tryz.prog 67 #[.pointer (some ⟨g, 0, none⟩), .int .i64 o] w fun x w' => x = Stop 3 o ∧ w = w' := by
  obtain ⟨c0, c1, c2, c3, c4, f1, f2, f3, f4⟩ := h.cells
  clear h
  go_enter Tryz.func67, Tryz.ntmps67
  go_wp2_with (go_at_call 37; refine (rfail_any _ _ _ _).mono ?_; rintro x w3 ⟨rfl, rfl⟩)
  exact ⟨rfl, rfl, rfl⟩

/-- The slice v of whether # is a number: the call's own, its block from B on. -/
def Hs (B : Nat) (w : World) (v : Value) (hs : List Bool) : Prop := w.ownsRow B 4 1 v hs.length (hs.map Value.bool)
def topB (hs : List Bool) : Bool := hs.getLast?.getD false
theorem snoc_or {α : Type} (l : List α) : l = [] ∨ ∃ l0 a, l = l0 ++ [a] := by
  rcases List.eq_nil_or_concat l with h | ⟨l0, a, h⟩
  · exact .inl h
  · exact .inr ⟨l0, a, by rw [h, List.concat_eq_append]⟩
theorem Hs.nil (B : Nat) (w : World) : Hs B w (.slice none 0 0) [] := World.ownsRow_nil w B _ 1
theorem Hs.keep {B : Nat} {w w' : World} {v : Value} {hs : List Bool} {bs : List Nat} (h : Hs B w v hs) (hk : Keep bs w w') (hb : ∀ x ∈ v.ownBlock.toList, x ∉ bs) : Hs B w' v hs := ownsRow_keep h hk hb
theorem Hs.form {B : Nat} {w : World} {v : Value} {hs : List Bool} (h : Hs B w v hs) : ∃ A cap, v = .slice A hs.length cap ∧ (hs ≠ [] → ∃ b, A = some ⟨b, 0, none⟩ ∧ ∀ i x, hs[i]? = some x → w.cell? ⟨b, i, none⟩ = some (.bool x)) := by
  rcases h.2 with ⟨rfl, h0⟩ | ⟨g, cap, cur, rfl, hB, hg, hn, hc, hsz, htk⟩
  · exact ⟨none, 0, by rw [h0], fun hl => absurd (List.eq_nil_of_length_eq_zero h0) hl⟩
  · refine ⟨_, _, rfl, fun _ => ⟨g, rfl, fun i x hi => ?_⟩⟩
    have hlt := (List.getElem?_eq_some_iff.1 hi).1
    rw [World.ownsRow.cellAt h i (by omega), List.getElem?_map, hi]; rfl

set_option maxRecDepth 100000 in
set_option maxHeartbeats 800000 in
/-- inPlural. -/
theorem inPl_any {B : Nat} (w : World) (g : Nat) (s : ByteArray) (p n d : Nat) (v : Value) (hs : List Bool) (h : Rr w g s p n d v) (hH : Hs B w v hs) (hl : hs.length ≤ 1000000) :
    Calls Tryz.prog 70 #[.pointer (some ⟨g, 0, none⟩)] w fun x w' => x = .returned (.bool (topB hs)) ∧ ∃ k, w' = w.drewN k := by
  obtain ⟨A, cap, rfl, hc⟩ := hH.form
  obtain ⟨c0, c1, c2, c3, c4, f1, f2, f3, f4⟩ := h.cells
  clear h hH
  rcases snoc_or hs with rfl | ⟨l0, a, rfl⟩
  · clear hc
    go_enter Tryz.func70, Tryz.ntmps70
    go_wp2
    go_quiet (fail)
    go_wp2
    go_ret
    exact ⟨rfl, _, rfl⟩
  · obtain ⟨b, rfl, hc2⟩ := hc (by simp)
    have i0 := hc2 l0.length a (by simp)
    clear hc hc2
    have HT : Hid (topB (l0 ++ [a]) = a) := by unfold Hid topB; simp
    generalize hlen : (l0 ++ [a]).length = m at *
    have hm : l0.length = m - 1 := by simp at hlen; omega
    have hm1 : 1 ≤ m := by simp at hlen; omega
    rw [hm] at i0
    clear hm hlen
    obtain ⟨k, rfl⟩ : ∃ k, m = k + 1 := ⟨m - 1, by omega⟩
    have i0' : w.cell? ⟨b, k, none⟩ = some (.bool a) := i0
    have s1 : (0 : Int) < ((k + 1 : Nat) : Int) := by omega
    have s2 : IntKind.i64.wrap (((k + 1 : Nat) : Int) - 1) = (k : Int) := by rw [IntWalk.i64_in _ (by omega)]; omega
    have s3 : ((k + 1 : Nat) : Int) - 1 = (k : Int) := by omega
    clear i0 hm1
    go_enter Tryz.func70, Tryz.ntmps70
    go_wp2
    go_quiet (fail)
    go_wp2
    go_ret
    exact ⟨by rw [HT.out]; rfl, _, rfl⟩
end Go.Proofs.YtjldgcpmdcoejaaGreatDoor
