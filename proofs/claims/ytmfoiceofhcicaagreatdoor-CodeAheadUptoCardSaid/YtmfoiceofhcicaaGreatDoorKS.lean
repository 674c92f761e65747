/- Walks: octet's number, U16, U32. -/
import Derived.Test.YtmfoiceofhcicaaGreatDoorKR
namespace Go.Proofs.YtmfoiceofhcicaaGreatDoor
open Go.RowKit Go.IntWalk

/-- The number of bytes, the least first. -/
def numU : List UInt8 → Nat
  | [] => 0
  | b :: r => b.toNat + 256 * numU r
theorem numU_lt : ∀ l : List UInt8, numU l < 256 ^ l.length
  | [] => by simp [numU]
  | b :: r => by
    have := numU_lt r
    have hb := b.toNat_lt
    simp only [numU, List.length_cons, Nat.pow_succ]
    omega
theorem numU_append : ∀ (l r : List UInt8), numU (l ++ r) = numU l + 256 ^ l.length * numU r
  | [], r => by simp [numU]
  | b :: l, r => by
    simp only [List.cons_append, numU, List.length_cons, numU_append l r, Nat.pow_succ]
    rw [Nat.mul_add, Nat.mul_comm (256 ^ l.length) 256, Nat.mul_assoc]
    omega
theorem u32_acc (a y e : Nat) (ha : a < 2 ^ e) (he : e ≤ 24) (hy : y < 256) : bits BinOp.or IntKind.u32 (a : Int) ((y : Int) % 4294967296 * 2 ^ e % 4294967296) = ((a + 2 ^ e * y : Nat) : Int) := by
  have h2 : 2 ^ e ≤ 2 ^ 24 := Nat.pow_le_pow_right (by omega) he
  have hor := Nat.shiftLeft_add_eq_or_of_lt ha y
  rw [Nat.shiftLeft_eq] at hor
  have hm : y * 2 ^ e ≤ 255 * 2 ^ 24 := Nat.mul_le_mul (by omega) h2
  have e1 : (y : Int) % 4294967296 * 2 ^ e % 4294967296 = ((y * 2 ^ e : Nat) : Int) := by
    rw [show (y : Int) % 4294967296 = (y : Int) by omega, show ((y : Int) * 2 ^ e) = ((y * 2 ^ e : Nat) : Int) by simp]
    omega
  rw [e1]
  show IntKind.u32.wrap ((BitVec.ofInt 32 (a : Int) ||| BitVec.ofInt 32 ((y * 2 ^ e : Nat) : Int)).toNat : Int) = _
  rw [BitVec.toNat_or, BitVec.ofInt_natCast, BitVec.ofInt_natCast, BitVec.toNat_ofNat, BitVec.toNat_ofNat, Nat.mod_eq_of_lt (by omega), Nat.mod_eq_of_lt (by omega), Nat.or_comm, ← hor, IntKind.wrap_u32, Nat.mul_comm y]
  rw [Nat.mul_comm] at hm
  omega
theorem num_next {bs : List UInt8} {j : Nat} {y : UInt8} (hy : bs[j]? = some y) : numU (bs.take (j + 1)) = numU (bs.take j) + 2 ^ (8 * j) * y.toNat := by
  have hj := (List.getElem?_eq_some_iff.1 hy).1
  rw [List.take_add_one, hy, Option.toList_some, numU_append, List.length_take, Nat.min_eq_left (by omega), Nat.pow_mul]
  simp [numU]
set_option maxRecDepth 100000 in
set_option maxHeartbeats 800000 in
/-- number. -/
theorem onum_any (w : World) (g : Nat) (v : Value) (l : List UInt8) (k f n : Nat) (hn : n ≤ 4) (hf : f ≤ 1000) (h : Rdr w g v l k f) :
    Calls Tryz.prog 95 #[.pointer (some ⟨g, 0, none⟩), .int .i64 n] w fun e w' => e = .returned (.int .u32 (numU (tkB l k f n) : Nat)) ∧ Rdr w' g v l (tkK l k f n) (tkF l k f n) ∧ Keep [g] w w' := by
  have HT := Lib.hid (otake_any w g v l k f n (by omega) hf h)
  have hfew : (tkB l k f n).length ≤ 4 := by
    unfold tkB
    split
    · rw [List.length_take]; omega
    · simp
  clear h
  generalize tkB l k f n = bs at *
  go_enter Tryz.func95, Tryz.ntmps95
  go_wp2_with (go_at_call 96; refine HT.out.mono ?_; rintro e w1 ⟨v1, rfl, hr1, hR1, hk1⟩; obtain ⟨A1, c1, rfl, hrest⟩ := hr1; have HC1 := Lib.hid hrest; have HR1 := Lib.hid hR1; have HK1 := Lib.hid hk1; clear hrest hR1 hk1)
  go_loopw [5, 16] (fun x i wr => ∃ (j : Nat), j ≤ bs.length ∧ i = .int .i64 j ∧ x = .int .u32 (numU (bs.take j) : Nat) ∧ wr = w1) (fun _ i _ => bs.length - (intOf i).toNat)
  case atStart => exact ⟨0, Nat.zero_le _, rfl, rfl, rfl⟩
  case round =>
    obtain ⟨j, hj, rfl, rfl, rfl⟩ := hrel
    by_cases hlt : j < bs.length
    · obtain ⟨b, o, rfl, _, hb, hat⟩ := HC1.out.2.2 (by omega)
      obtain ⟨y, hy⟩ : ∃ y, bs[j]? = some y := ⟨_, List.getElem?_eq_getElem hlt⟩
      have a0 : wr.cell? ⟨b, o + j, none⟩ = some (.int .u8 (y.toNat : Nat)) := hat j _ (by rw [List.getElem?_map, hy]; rfl)
      have HA := Lib.hid hat
      clear hat HC1
      go_wp2
      have hlt' := numU_lt (bs.take j)
      rw [List.length_take, Nat.min_eq_left hj, show (256 : Nat) = 2 ^ 8 from rfl, ← Nat.pow_mul] at hlt'
      refine ⟨⟨j + 1, hlt, by simp, ?_, trivial⟩, ?_⟩
      · rw [num_next hy, u32_acc _ _ _ hlt' (by omega) y.toNat_lt]
      · simp only [intOf]
        omega
    · go_wp2
      obtain rfl : j = bs.length := by omega
      rw [List.take_length]
      go_ret
      exact ⟨rfl, HR1.out, HK1.out⟩
set_option maxRecDepth 100000 in
set_option maxHeartbeats 800000 in
/-- U16. -/
theorem ou16_any (w : World) (g : Nat) (v : Value) (l : List UInt8) (k f : Nat) (hf : f ≤ 1000) (h : Rdr w g v l k f) :
    Calls Tryz.prog 73 #[.pointer (some ⟨g, 0, none⟩)] w fun e w' => e = .returned (.int .u16 (numU (tkB l k f 2) : Nat)) ∧ Rdr w' g v l (tkK l k f 2) (tkF l k f 2) ∧ Keep [g] w w' := by
  have HN := Lib.hid (onum_any w g v l k f 2 (by omega) hf h)
  have hlt : numU (tkB l k f 2) < 65536 := by
    have hl : (tkB l k f 2).length ≤ 2 := by
      unfold tkB
      split
      · rw [List.length_take]; omega
      · simp
    exact Nat.lt_of_lt_of_le (numU_lt _) (Nat.pow_le_pow_right (n := 256) (by omega) hl)
  clear h
  go_enter Tryz.func73, Tryz.ntmps73
  go_wp2_with (go_at_call 95; refine HN.out.mono ?_; rintro e w1 ⟨rfl, hR1, hk1⟩; have HR1 := Lib.hid hR1; have HK1 := Lib.hid hk1; clear hR1 hk1)
  go_ret
  exact ⟨rfl, HR1.out, HK1.out⟩
set_option maxRecDepth 100000 in
set_option maxHeartbeats 800000 in
/-- U32. -/
theorem ou32_any (w : World) (g : Nat) (v : Value) (l : List UInt8) (k f : Nat) (hf : f ≤ 1000) (h : Rdr w g v l k f) :
    Calls Tryz.prog 76 #[.pointer (some ⟨g, 0, none⟩)] w fun e w' => e = .returned (.int .u32 (numU (tkB l k f 4) : Nat)) ∧ Rdr w' g v l (tkK l k f 4) (tkF l k f 4) ∧ Keep [g] w w' := by
  have HN := Lib.hid (onum_any w g v l k f 4 (by omega) hf h)
  clear h
  go_enter Tryz.func76, Tryz.ntmps76
  go_wp2_with (go_at_call 95; refine HN.out.mono ?_; rintro e w1 ⟨rfl, hR1, hk1⟩; have HR1 := Lib.hid hR1; have HK1 := Lib.hid hk1; clear hR1 hk1)
  go_ret
  exact ⟨rfl, HR1.out, HK1.out⟩
end Go.Proofs.YtmfoiceofhcicaaGreatDoor
