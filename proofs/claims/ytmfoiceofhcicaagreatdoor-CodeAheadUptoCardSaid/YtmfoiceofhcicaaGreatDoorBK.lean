/- strings.Builder, by contracts: what is held as a list of bytes. -/
import Derived.Test.YtmfoiceofhcicaaGreatDoorBase
import Derived.Test.YtmfoiceofhcicaaGreatDoorShelf
namespace Go.Proofs.YtmfoiceofhcicaaGreatDoor
open Go.RowKit

/-- Block b is a builder of the call's own that holds these bytes. -/
def Bld (b : Nat) (acc : List UInt8) (w : World) : Prop := Lib.IsBuilderF 116 5 b b (Lib.byteCells acc) w
section
variable {b : Nat} {acc : List UInt8} {w w' : World} {bs : List Nat}
theorem Bld.new' (w : World) (n : Nat) (hn : w.heap.size = n) : Bld n [] (w.alloc (.cells #[.pointer none, .slice none 0 0] 116)) := by
  subst hn
  exact .inl ⟨Nat.le_refl _, .slice none 0 0, heap_alloc_new w _, ⟨by simp [Lib.byteCells], .inl ⟨rfl, by simp [Lib.byteCells]⟩⟩, by simp [Value.ownBlock]⟩
theorem Bld.lt (h : Bld b acc w) : b < w.heap.size := by rcases h with h | h <;> exact h.lt
theorem Bld.drewN (h : Bld b acc w) (n : Nat) : Bld b acc (w.drewN n) := h
theorem Bld.alloc (h : Bld b acc w) (o : Obj) : Bld b acc (w.alloc o) := Lib.IsBuilderF.alloc h o
theorem ownsRowF_keep {B : Nat} {e : TypeId} {v : Value} {n : Nat} {xs : List Value} (h : w.ownsRowF B e 1 v n xs) (hk : Keep bs w w') (hr : ∀ x ∈ bs, ∀ c fz, w.heap[x]? ≠ some (.cells c e fz)) : w'.ownsRowF B e 1 v n xs := by
  refine ⟨h.1, ?_⟩
  rcases h.2 with hn | ⟨g, cap, cur, fz, hv, hB, hg, rest⟩
  · exact .inl hn
  · refine .inr ⟨g, cap, cur, fz, hv, hB, ?_, rest⟩
    rw [hk.block g (Array.getElem?_eq_some_iff.1 hg).1 (fun hx => hr g hx _ _ hg)]
    exact hg
theorem Bld.keep (h : Bld b acc w) (hk : Keep bs w w') (hb : b ∉ bs) (hr : ∀ x ∈ bs, ∀ c fz, w.heap[x]? ≠ some (.cells c 5 fz)) : Bld b acc w' := by
  have key : ∀ p, Lib.BuilderAtF 116 5 b b p (Lib.byteCells acc) w → Lib.BuilderAtF 116 5 b b p (Lib.byteCells acc) w' := by
    rintro p ⟨h1, v, h2, h3, h4⟩
    refine ⟨h1, v, ?_, ownsRowF_keep h3 hk hr, h4⟩
    rw [hk.block b (Array.getElem?_eq_some_iff.1 h2).1 hb]
    exact h2
  rcases h with h | h
  · exact .inl (key _ h)
  · exact .inr (key _ h)
theorem Bld.keep_nil (h : Bld b acc w) (hk : Keep [] w w') : Bld b acc w' := h.keep hk (by simp) (by simp)
theorem byteCells_append (a c : List UInt8) : Lib.byteCells (a ++ c) = Lib.byteCells a ++ Lib.byteCells c := by simp [Lib.byteCells]
theorem bld_byte (c : Int) (h0 : 0 ≤ c) (h1 : c < 256) (h : Bld b acc w) (hlen : acc.length + 1 ≤ 140737488355328) :
    Calls Tryz.prog 86 #[.pointer (some ⟨b, 0, none⟩), .int .u8 c] w fun e w' => e = .returned .nilIface ∧ Bld b (acc ++ [c.toNat.toUInt8]) w' ∧ Below b w w' ∧ Lib.OthersKept 5 (some b) w w' :=
  (Tryz.Builder_WriteByte_k b b _ c w h (by rw [Lib.byteCells_length]; exact hlen) (Nat.le_of_lt h.lt)).mono fun e w' ⟨he, hb, h2, h3⟩ => ⟨he, .inr (by
    rw [byteCells_append]
    have : Lib.byteCells [c.toNat.toUInt8] = [Value.int .u8 c] := by
      simp only [Lib.byteCells, List.map_cons, List.map_nil]
      congr 2
      simp
      omega
    rw [this]
    exact hb), h2, h3⟩
theorem bld_string (s : ByteArray) (h : Bld b acc w) (hlen : acc.length + s.size ≤ 140737488355328) :
    Calls Tryz.prog 84 #[.pointer (some ⟨b, 0, none⟩), .string s] w fun e w' => e = .returned (.tuple #[.int .i64 s.size, .nilIface]) ∧ Bld b (acc ++ s.data.toList) w' ∧ Below b w w' ∧ Lib.OthersKept 5 (some b) w w' :=
  (Tryz.Builder_WriteString_k b b _ s w h (by rw [Lib.byteCells_length]; exact hlen) (Nat.le_of_lt h.lt)).mono fun e w' ⟨he, hb, h2, h3⟩ => ⟨he, .inr (by
    rw [byteCells_append]
    exact hb), h2, h3⟩
theorem bld_str (h : Bld b acc w) :
    Calls Tryz.prog 59 #[.pointer (some ⟨b, 0, none⟩)] w fun e w' => e = .returned (.string ⟨acc.toArray⟩) ∧ Bld b acc w' ∧ Below b w w' ∧ Lib.OthersKept 5 (some b) w w' :=
  (Tryz.Builder_String_any_k b b acc w h (Nat.le_of_lt h.lt)).mono fun _ _ hh => hh
theorem bld_len (h : Bld b acc w) :
    Calls Tryz.prog 58 #[.pointer (some ⟨b, 0, none⟩)] w fun e w' => e = .returned (.int .i64 acc.length) ∧ w = w' :=
  (Tryz.Builder_Len_f b b _ w h).mono fun e w' ⟨he, hw⟩ => ⟨by rw [he, Lib.byteCells_length], hw.symm⟩
end
end Go.Proofs.YtmfoiceofhcicaaGreatDoor
