/- Walks: write of messages: parts in their one form. -/
import Derived.Test.YtjldgcpmdcoejaaGreatDoorPX
namespace Go.Proofs.YtjldgcpmdcoejaaGreatDoor
open Go.RowKit

theorem Keep.of_below_all {b : Nat} {w w' : World} (h : Below b w w') (hs : w.heap.size ≤ w'.heap.size) : Keep ((List.range w.heap.size).filter (fun k => decide (b ≤ k))) w w' :=
  ⟨h.os, h.tape, h.output, hs, fun k hk hn => h.block k (by simp at hn; omega)⟩
theorem Lies.below {n : Nat} {S : Nat → Prop} {w w' : World} {v : Value} {l : List PT} {b : Nat} (h : Lies n S w v l) (hb : Below b w w') (hS : ∀ x, S x → x < b) : Lies n S w' v l :=
  h.keep (Keep.of_below_all hb hb.size) (fun x hx hc => by have := hS x hc; simp at hx; omega)
theorem LiesC.below {n : Nat} {S : Nat → Prop} {w w' : World} {v : Value} {l : List CT} {b : Nat} (h : LiesC n S w v l) (hb : Below b w w') (hS : ∀ x, S x → x < b) : LiesC n S w' v l :=
  h.keep (Keep.of_below_all hb hb.size) (fun x hx hc => by have := hS x hc; simp at hx; omega)
def allO (Q : PT → Prop) : Nat → List PT → Prop
  | 0, _ => True
  | n + 1, l => ∀ p ∈ l, Q p ∧ ∀ c ∈ p.cs, allO Q n c.2
theorem writeL_append (W : List PT → Bool → List UInt8) (h : Bool) : ∀ (a b : List PT), writeL W h (a ++ b) = writeL W h a ++ writeL W h b
  | [], _ => rfl
  | p :: a, b => by simp only [List.cons_append, writeL, writeL_append W h a b, List.append_assoc]
/-- What write leaves behind. -/
def WPost (b : Nat) (acc out : List UInt8) (w : World) (e : Ending) (w' : World) : Prop := e = .returned (.tuple #[]) ∧ Bld b (acc ++ out) w' ∧ BK2 b w w'
/-- write is right, n deep. -/
def WriteC (n : Nat) : Prop := ∀ (l : List PT) (h : Bool) (S : Nat → Prop) (v : Value) (b : Nat) (acc : List UInt8) (B : Nat) (w : World), EnvM B w → B ≤ b → Lies n S w v l → (∀ x, S x → x < b) → Bld b acc w → allO offOK n l → bulkF n l ≤ 1000000000 → acc.length + 100 * bulkF n l ≤ 100000000000 →
  Calls Tryz.prog 52 #[.pointer (some ⟨b, 0, none⟩), v, .bool h] w (WPost b acc (writeF n l h) w)

theorem itoa_off {p : PT} (h : offOK p) : (Lib.itoa p.off).length ≤ 21 := Lib.itoa_length_le p.off (by have := h.1; omega) (by have := h.2; omega)
theorem writeL_len {K : List PT → Nat} {V : List PT → Bool → List UInt8} (hv : ∀ (c : List PT) (h : Bool), (V c h).length ≤ 100 * K c) (h : Bool) : ∀ (l : List PT), (∀ p ∈ l, offOK p) → (writeL V h l).length ≤ 100 * bulkL K l
  | [], _ => by simp [writeL]
  | p :: l, ho => by
    have h1 := writeL_len hv h l (fun q hq => ho q (List.mem_cons_of_mem _ hq))
    have h2 := partW_len hv h p (itoa_off (ho p (List.mem_cons_self ..)))
    simp only [writeL, bulkL, List.length_append]
    omega

theorem allO_len : ∀ (n : Nat) (l : List PT) (h : Bool), allO offOK n l → (writeF n l h).length ≤ 100 * bulkF n l
  | 0, _, _, _ => by simp [writeF]
  | n + 1, l, h, ho => by
    have key : ∀ (l : List PT), (∀ p ∈ l, offOK p ∧ ∀ c ∈ p.cs, allO offOK n c.2) → (writeL (writeF n) h l).length ≤ 100 * bulkL (bulkF n) l := fun l => by
      induction l with
      | nil => intro _; simp [writeL]
      | cons p l ih =>
        intro ho
        have h1 := ih (fun q hq => ho q (List.mem_cons_of_mem _ hq))
        obtain ⟨hp, hc⟩ := ho p (List.mem_cons_self ..)
        have h2 : (partW (writeF n) h p).length ≤ 100 * (1 + p.tx.size + p.nm.size + p.ty.size + p.st.size + bulkC (bulkF n) p.cs) := by
          have hcw : ∀ (b : Bool) (g : Bool) (cs : List CT), (∀ c ∈ cs, allO offOK n c.2) → (caseW (fun m => writeF n m g) b cs).length ≤ 100 * bulkC (bulkF n) cs := fun b g cs => by
            induction cs generalizing b with
            | nil => intro _; simp [caseW]
            | cons c cs ih2 =>
              intro hc
              have q1 := ih2 true (fun d hd => hc d (List.mem_cons_of_mem _ hd))
              have q2 := allO_len n c.2 g (hc c (List.mem_cons_self ..))
              have q3 := size_len c.1
              simp only [caseW, bulkC, List.length_append, List.length_singleton]
              cases b <;> simp <;> omega
          have h1 := dressL_len h p.tx.data.toList
          have h2 := hcw false (decide (p.k ≠ 4)) p.cs hc
          have h3 := wordB_len p.k
          have hi := itoa_off hp
          have t1 := size_len p.tx
          have t2 := size_len p.nm
          have t3 := size_len p.ty
          have t4 := size_len p.st
          have ho := offW_len
          unfold partW
          generalize caseW (fun m => writeF n m (decide (p.k ≠ 4))) false p.cs = X at *
          generalize (wordB p.k).data.toList = wd at *
          generalize Lib.itoa p.off = it at *
          split
          · omega
          · split
            · simp; omega
            · split
              · simp only [List.length_append, List.length_singleton]
                split <;> split <;> simp <;> omega
              · split
                · simp only [List.length_append, List.length_singleton]
                  split <;> simp <;> omega
                · simp
        simp only [writeL, bulkL, List.length_append]
        omega
    exact key l ho
end Go.Proofs.YtjldgcpmdcoejaaGreatDoor
