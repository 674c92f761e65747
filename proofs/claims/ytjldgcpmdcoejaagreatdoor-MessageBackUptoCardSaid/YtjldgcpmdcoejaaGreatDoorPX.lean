/- Plain and walks: write of messages: parts in their one form. -/
import Derived.Test.YtjldgcpmdcoejaaGreatDoorPN
import Derived.Lib.ItoaLen
namespace Go.Proofs.YtjldgcpmdcoejaaGreatDoor
open Go.RowKit

/-! ### how long the one form can be -/
theorem dbl_len (l : List UInt8) : (dbl l).length ≤ 2 * l.length := dbl_le l
theorem dressL_len (h : Bool) (l : List UInt8) : (dressL h l).length ≤ 2 * l.length + 2 := by
  unfold dressL
  split
  · rename_i ha
    have h1 := first_last ha
    have h2 := lastN_le (specB h) l
    have d1 := dbl_le (l.take (l.findIdx (specB h)))
    have d2 := dbl_le ((l.take (lastN (specB h) l)).drop (l.findIdx (specB h)))
    have d3 := dbl_le (l.drop (lastN (specB h) l))
    simp only [List.length_append, List.length_take, List.length_drop, List.length_singleton] at *
    omega
  · have := dbl_le l; omega
theorem offW_len : offW.length = 7 := rfl
theorem wordB_len (k : Int) : (wordB k).data.toList.length ≤ 13 := by
  unfold wordB
  split
  · decide
  · split <;> decide
theorem caseW_len {K : List PT → Nat} {V : List PT → List UInt8} (hv : ∀ c : List PT, (V c).length ≤ 100 * K c) : ∀ (b : Bool) (cs : List CT), (caseW V b cs).length ≤ 100 * bulkC K cs
  | _, [] => by simp [caseW]
  | b, c :: cs => by
    have h1 := caseW_len hv true cs
    have h2 := hv c.2
    have h3 := size_len c.1
    simp only [caseW, bulkC, List.length_append, List.length_singleton]
    cases b <;> simp <;> omega
/-- The offset of a choice that may be. -/
def offOK (p : PT) : Prop := 0 ≤ p.off ∧ p.off ≤ 999999999
theorem partW_len {K : List PT → Nat} {V : List PT → Bool → List UInt8} (hv : ∀ (c : List PT) (h : Bool), (V c h).length ≤ 100 * K c) (h : Bool) (p : PT) (hi : (Lib.itoa p.off).length ≤ 21) : (partW V h p).length ≤ 100 * (1 + p.tx.size + p.nm.size + p.ty.size + p.st.size + bulkC K p.cs) := by
  have h1 := dressL_len h p.tx.data.toList
  have h2 := caseW_len (fun c => hv c (decide (p.k ≠ 4))) false p.cs
  have h3 := wordB_len p.k
  have t1 := size_len p.tx
  have t2 := size_len p.nm
  have t3 := size_len p.ty
  have t4 := size_len p.st
  have ho := offW_len
  unfold partW
  generalize caseW (fun c => V c (decide (p.k ≠ 4))) false p.cs = X at *
  generalize (wordB p.k).data.toList = wd at *
  generalize Lib.itoa p.off = it at *
  split
  · omega
  · split
    · simp; omega
    · split
      · simp only [List.length_append, List.length_singleton]
        split <;> split <;> simp <;> omega
      · split
        · simp only [List.length_append, List.length_singleton]
          split <;> simp <;> omega
        · simp
/-- strings.Builder's frame: below b all stands; so do all others but rows of bytes. -/
structure BK2 (b : Nat) (w w' : World) : Prop where
  below : Below b w w'
  others : Lib.OthersKept 5 (some b) w w'
theorem BK2.refl (b : Nat) (w : World) : BK2 b w w := ⟨Below.refl _ _, Lib.OthersKept.refl _ _ _⟩
theorem BK2.trans {b : Nat} {a c d : World} (h : BK2 b a c) (k : BK2 b c d) : BK2 b a d := ⟨h.below.trans k.below, h.others.trans k.others⟩
theorem BK2.alloc {b : Nat} {a c : World} (h : BK2 b a c) (hb : b ≤ c.heap.size) (o : Obj) : BK2 b a (c.alloc o) := ⟨h.below.alloc hb _, h.others.alloc _⟩
theorem BK2.keep {b : Nat} {a c d : World} (h : BK2 b a c) (k : Keep [] c d) (hb : b ≤ c.heap.size) : BK2 b a d :=
  ⟨h.below.trans (k.toBelow.mono hb), h.others.trans (fun i o hi _ _ => (k.block i (Array.getElem?_eq_some_iff.1 hi).1 (by simp)).trans hi)⟩
theorem BK2.blk {b : Nat} {a c : World} (h : BK2 b a c) {g : Nat} {t : TypeId} {cs : Array Value} (hg : Blk a g t cs) (h1 : t ≠ 5) (h2 : g ≠ b) : Blk c g t cs :=
  h.others g _ hg (by simpa using h2) (fun c fz hc => by injection hc with _ ht; exact h1 ht)
end Go.Proofs.YtjldgcpmdcoejaaGreatDoor
