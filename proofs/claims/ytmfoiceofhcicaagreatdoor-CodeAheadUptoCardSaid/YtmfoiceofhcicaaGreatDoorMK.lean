/- Walks: key of the reader of messages. -/
import Derived.Test.YtmfoiceofhcicaaGreatDoorMS
namespace Go.Proofs.YtmfoiceofhcicaaGreatDoor
open Go.RowKit

theorem containsS_eq (ws : List ByteArray) (x : ByteArray) : Lib.containsS ws x = memW ws x := by
  have h := Lib.containsS_iff ws x
  rw [Bool.eq_iff_iff, h, memW_iff]
/-- strings.Fields of words of ASCII, in plain words. -/
theorem fields_words {B : Nat} (s : ByteArray) (ws : List ByteArray) (W : World) (hE : EnvM B W) (hs : s.size < 4294967281) (ha : s.data.toList.all (fun b => decide (b.toNat < 128)) = true) (h : (Lib.fields s.data.toList).map (fun l => (⟨l.toArray⟩ : ByteArray)) = ws) :
    Calls Tryz.prog 99 #[.string s] W fun e w' => e = .returned (.slice (some ⟨W.heap.size, 0, none⟩) ws.length ws.length) ∧ w' = W.alloc (.cells (ws.map Value.string).toArray 9) := by
  subst h
  have := Tryz.strings_Fields_laid s W hs (fun j b hj => by
    have := List.all_eq_true.1 ha b (List.mem_of_getElem? hj)
    simpa using this) hE.vars.sp
  simpa [List.map_map, Function.comp_def] using this
/-- slices.Contains in such words. -/
theorem words_contain (W : World) (n : Nat) (hn : W.heap.size = n) (ws : List ByteArray) (x : ByteArray) (hl : ws.length ≤ 1000) :
    Calls Tryz.prog 98 #[.slice (some ⟨n, 0, none⟩) ws.length ws.length, .string x] (W.alloc (.cells (ws.map Value.string).toArray 9)) fun e w' => e = .returned (.bool (memW ws x)) ∧ w' = W.alloc (.cells (ws.map Value.string).toArray 9) := by
  have := Tryz.slices_Contains_string n 0 ws.length ws.length ws x (W.alloc (.cells (ws.map Value.string).toArray 9)) (Nat.le_refl _) (by omega) (fun j hj => by
    rw [Nat.zero_add]
    refine (Blk.new' W 9 (ws.map Value.string).toArray n hn).cell_eq ?_
    simp [List.getD_eq_getElem?_getD, List.getElem?_eq_getElem hj])
  rw [List.take_length, containsS_eq] at this
  exact this

end Go.Proofs.YtmfoiceofhcicaaGreatDoor
