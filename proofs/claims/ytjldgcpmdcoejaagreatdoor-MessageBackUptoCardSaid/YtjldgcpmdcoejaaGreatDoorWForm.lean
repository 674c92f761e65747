/- Walks: vernacularref02.Form, Broken, Right: what they compute, told by the model's decoder. -/
import Derived.Test.YtjldgcpmdcoejaaGreatDoorChecked
import Derived.Test.YtjldgcpmdcoejaaGreatDoorUtf
import Derived.WalkKit
import Derived.WalkSpells
import Derived.WalkLawsBesides
import Derived.Lib.Hide
import Derived.Deep.Light
namespace Go.Proofs.YtjldgcpmdcoejaaGreatDoor
open Go.RowKit

theorem i32_acc (a b : Int) (h0 : 0 ≤ a) (h1 : a < 16777216) (h2 : 0 ≤ b) (h3 : b < 64) : bits BinOp.or IntKind.i32 (a * 64) b = a * 64 + b := by
  obtain ⟨a, rfl⟩ := Int.eq_ofNat_of_zero_le h0
  obtain ⟨b, rfl⟩ := Int.eq_ofNat_of_zero_le h2
  have h1' : a < 16777216 := by omega
  have h3' : b < 2 ^ 6 := by omega
  have hor := Nat.shiftLeft_add_eq_or_of_lt h3' a
  rw [Nat.shiftLeft_eq] at hor
  show IntKind.i32.wrap ((BitVec.ofInt 32 ((a : Int) * 64) ||| BitVec.ofInt 32 (b : Int)).toNat : Int) = _
  rw [BitVec.toNat_or, show (a : Int) * 64 = ((a * 2 ^ 6 : Nat) : Int) from by omega, BitVec.ofInt_natCast, BitVec.ofInt_natCast, BitVec.toNat_ofNat, BitVec.toNat_ofNat,
    Nat.mod_eq_of_lt (by omega), Nat.mod_eq_of_lt (by omega), ← hor, IntKind.wrap_i32]
  omega

/-- The rune that Form has gathered ahead of its j-th byte. -/
def accF (s : ByteArray) (k : Nat) (b : Int) : Nat → Int
  | 0 => b
  | 1 => b
  | j + 2 => accF s k b (j + 1) * 64 + (s.get! (k + (j + 1))).toNat % 64
def allC (s : ByteArray) (k j : Nat) : Prop := ∀ m, 1 ≤ m → m < j → (s.get! (k + m)).toNat / 64 = 2
theorem allC_one (s : ByteArray) (k : Nat) : allC s k 1 := fun m h1 h2 => by omega
theorem allC_next {s : ByteArray} {k j : Nat} (h : allC s k j) (hc : (s.get! (k + j)).toNat / 64 = 2) : allC s k (j + 1) := fun m h1 h2 => by
  by_cases e : m = j
  · subst e; exact hc
  · exact h m h1 (by omega)
theorem accF_next (s : ByteArray) (k : Nat) (b : Int) (j : Nat) (h : 1 ≤ j) : accF s k b (j + 1) = accF s k b j * 64 + (s.get! (k + j)).toNat % 64 := by
  obtain ⟨j, rfl⟩ : ∃ i, j = i + 1 := ⟨j - 1, by omega⟩
  rfl
theorem accF_bd (s : ByteArray) (k : Nat) (b : Int) (h0 : 0 ≤ b) (h1 : b < 32) : ∀ j, j ≤ 4 → 0 ≤ accF s k b j ∧ accF s k b j < 32 * 64 ^ 3
  | 0, _ => by simp only [accF]; omega
  | 1, _ => by simp only [accF]; omega
  | 2, _ => by simp only [accF]; omega
  | 3, _ => by simp only [accF]; omega
  | 4, _ => by simp only [accF]; omega
  | j + 5, h => by omega
theorem accF_lt (s : ByteArray) (k : Nat) (b : Int) (h0 : 0 ≤ b) (h1 : b < 32) : ∀ j, j ≤ 3 → accF s k b j < 32 * 64 ^ 2
  | 0, _ => by simp only [accF]; omega
  | 1, _ => by simp only [accF]; omega
  | 2, _ => by simp only [accF]; omega
  | 3, _ => by simp only [accF]; omega
  | j + 4, h => by omega

theorem allC_2 {s : ByteArray} {k : Nat} (h : allC s k 2) : (s.get! (k + 1)).toNat / 64 = 2 := h 1 (by omega) (by omega)
theorem allC_3 {s : ByteArray} {k : Nat} (h : allC s k 3) : (s.get! (k + 1)).toNat / 64 = 2 ∧ (s.get! (k + 2)).toNat / 64 = 2 := ⟨h 1 (by omega) (by omega), h 2 (by omega) (by omega)⟩
theorem allC_4 {s : ByteArray} {k : Nat} (h : allC s k 4) : (s.get! (k + 1)).toNat / 64 = 2 ∧ (s.get! (k + 2)).toNat / 64 = 2 ∧ (s.get! (k + 3)).toNat / 64 = 2 := ⟨h 1 (by omega) (by omega), h 2 (by omega) (by omega), h 3 (by omega) (by omega)⟩
theorem form_ret {s : ByteArray} {k : Nat} {a b : Int} (h : formD s k = (a, b.toNat)) (h0 : b = (b.toNat : Int)) : Ending.returned (.tuple #[.int .i32 a, .int .i64 b]) = Ending.returned (.tuple #[.int .i32 (formD s k).1, .int .i64 (formD s k).2]) := by
  rw [h]
  simp only
  rw [← h0]
theorem bits192 (x : UInt8) (h : x.toNat / 64 = 2) : (bits BinOp.and IntKind.u8 (x.toNat : Int) 192 != 128) = false := by
  have hx := UInt8.toNat_lt x
  rw [Lib.runeStart_of _ (by omega) (by omega)]
  unfold Lib.runeStart
  simp
  omega
theorem bits192' (x : UInt8) (h : ¬ x.toNat / 64 = 2) : (bits BinOp.and IntKind.u8 (x.toNat : Int) 192 != 128) = true := by
  have hx := UInt8.toNat_lt x
  rw [Lib.runeStart_of _ (by omega) (by omega)]
  unfold Lib.runeStart
  simp
  omega

set_option maxRecDepth 100000 in
set_option maxHeartbeats 400000 in
theorem form_out (s : ByteArray) (k : Int) (w : World) (hs : s.size ≤ maxLen) (h : (s.size : Int) ≤ k) :
    Calls Tryz.prog 65 #[.string s, .int .i64 k] w fun e w' => e = .returned (.tuple #[.int .i32 (-1), .int .i64 0]) ∧ w = w' := by
  unfold maxLen at hs
  go_enter Tryz.func65, Tryz.ntmps65
  go_wp2
  go_ret2
  exact ⟨rfl, rfl⟩

set_option maxRecDepth 100000 in
set_option maxHeartbeats 1000000 in
theorem form_short (s : ByteArray) (k : Nat) (w : World) (hs : s.size ≤ 9223372036854775800) (h : k < s.size)
    (hc : (s[k].toNat : Int) < 194 ∨ 244 < (s[k].toNat : Int) ∨ (s.size : Int) < k + 2 ∨ (223 < (s[k].toNat : Int) ∧ (s.size : Int) < k + 3) ∨ (239 < (s[k].toNat : Int) ∧ (s.size : Int) < k + 4)) :
    Calls Tryz.prog 65 #[.string s, .int .i64 k] w fun e w' => e = .returned (.tuple #[.int .i32 (formD s k).1, .int .i64 (formD s k).2]) ∧ w = w' := by
  have HN := Lib.hid (formD_N s k)
  have hb0 := UInt8.toNat_lt s[k]
  have H0 := Lib.hid (get!_eq s k h)
  have HC := Lib.hid hc
  clear hc
  go_enter Tryz.func65, Tryz.ntmps65
  go_wp2
  all_goals
    have hcc := HC.out
    have h00 : ((s.get! k).toNat : Int) = s[k].toNat := by rw [H0.out]
  all_goals first
    | (exfalso; go_light; omega)
    | (go_ret2
       first
       | exact ⟨form_ret (formD_bad (by omega) (by omega) h) rfl, rfl⟩
       | (refine ⟨form_ret (b := 1) ?_ rfl, rfl⟩
          rw [formD_one (by omega), h00]
          rfl))

set_option maxRecDepth 100000 in
set_option maxHeartbeats 1000000 in
theorem form_2 (s : ByteArray) (k : Nat) (w : World) (hs : s.size ≤ 9223372036854775800) (h : k < s.size) (h1 : 194 ≤ (s[k].toNat : Int)) (h2 : (s[k].toNat : Int) ≤ 223) (h3 : (k : Int) + 2 ≤ s.size) :
    Calls Tryz.prog 65 #[.string s, .int .i64 k] w fun e w' => e = .returned (.tuple #[.int .i32 (formD s k).1, .int .i64 (formD s k).2]) ∧ w = w' := by
  have HN := Lib.hid (formD_N s k)
  have hb0 := UInt8.toNat_lt s[k]
  have H0 := Lib.hid (get!_eq s k h)
  have hk0 : ¬ (k : Int) < 0 := by omega
  go_enter Tryz.func65, Tryz.ntmps65
  go_wp2
  go_loop [8, 9] (fun r i => ∃ j : Nat, 1 ≤ j ∧ j ≤ 2 ∧ i = .int .i64 j ∧ r = .int .i32 (accF s k (s[k].toNat % 32) j) ∧ allC s k j) (fun _ i => 2 - (intOf i).toNat)
  case atStart => exact ⟨1, by omega, by omega, rfl, rfl, allC_one s k⟩
  case round =>
    obtain ⟨j, g1, g2, rfl, rfl, hall⟩ := hrel
    have HA := Lib.hid hall
    clear hall
    by_cases hj : j < 2
    · have hkj : k + j < s.size := by omega
      have Hj := Lib.hid (get!_eq s (k + j) hkj)
      have hbd := accF_bd s k (s[k].toNat % 32) (by omega) (by omega) j (by omega)
      have hlt := accF_lt s k (s[k].toNat % 32) (by omega) (by omega) j (by omega)
      have hbj := UInt8.toNat_lt s[k + j]
      have hor := i32_acc (accF s k (s[k].toNat % 32) j) (s[k + j].toNat % 64) (by omega) (by omega) (by omega) (by omega)
      by_cases hc : s[k + j].toNat / 64 = 2
      · have Hc := Lib.hid hc
        have e1 := bits192 s[k + j] hc
        clear hc
        go_wp2
        go_round
        case rel =>
          refine ⟨j + 1, by omega, by omega, by go_num, ?_, allC_next HA.out (by rw [Hj.out]; exact Hc.out)⟩
          rw [accF_next s k _ j g1, Hj.out]
        case measure => simp [intOf]; omega
      · have Hc := Lib.hid hc
        have e1 := bits192' s[k + j] hc
        clear hc
        go_wp2
        go_ret2
        have hn := Hc.out
        have h00 : ((s.get! k).toNat : Int) = s[k].toNat := by rw [H0.out]
        rw [← Hj.out] at hn
        go_light
        obtain rfl : j = 1 := by omega
        exact ⟨form_ret (formD_bad (by omega) (by omega) h) rfl, rfl⟩
    · obtain rfl : j = 2 := by omega
      have HL := Lib.hid (allC_2 HA.out)
      have hbd := accF_bd s k (s[k].toNat % 32) (by omega) (by omega) 2 (by omega)
      clear HA
      go_wp2
      all_goals
        have h00 : ((s.get! k).toNat : Int) = s[k].toNat := by rw [H0.out]
        go_ret2
        refine ⟨form_ret ?_ ?_, rfl⟩
        · skip
          go_light
          simp only [accF, Nat.zero_add] at *
          rw [formD_two (by omega) (by omega) HL.out]
          apply Prod.ext <;> simp only <;> omega
        · rfl

set_option maxRecDepth 100000 in
set_option maxHeartbeats 1000000 in
theorem form_3 (s : ByteArray) (k : Nat) (w : World) (hs : s.size ≤ 9223372036854775800) (h : k < s.size) (h1 : 224 ≤ (s[k].toNat : Int)) (h2 : (s[k].toNat : Int) ≤ 239) (h3 : (k : Int) + 3 ≤ s.size) :
    Calls Tryz.prog 65 #[.string s, .int .i64 k] w fun e w' => e = .returned (.tuple #[.int .i32 (formD s k).1, .int .i64 (formD s k).2]) ∧ w = w' := by
  have HN := Lib.hid (formD_N s k)
  have hb0 := UInt8.toNat_lt s[k]
  have H0 := Lib.hid (get!_eq s k h)
  have hk0 : ¬ (k : Int) < 0 := by omega
  go_enter Tryz.func65, Tryz.ntmps65
  go_wp2
  go_loop [8, 9] (fun r i => ∃ j : Nat, 1 ≤ j ∧ j ≤ 3 ∧ i = .int .i64 j ∧ r = .int .i32 (accF s k (s[k].toNat % 16) j) ∧ allC s k j) (fun _ i => 3 - (intOf i).toNat)
  case atStart => exact ⟨1, by omega, by omega, rfl, rfl, allC_one s k⟩
  case round =>
    obtain ⟨j, g1, g2, rfl, rfl, hall⟩ := hrel
    have HA := Lib.hid hall
    clear hall
    by_cases hj : j < 3
    · have hkj : k + j < s.size := by omega
      have Hj := Lib.hid (get!_eq s (k + j) hkj)
      have hbd := accF_bd s k (s[k].toNat % 16) (by omega) (by omega) j (by omega)
      have hlt := accF_lt s k (s[k].toNat % 16) (by omega) (by omega) j (by omega)
      have hbj := UInt8.toNat_lt s[k + j]
      have hor := i32_acc (accF s k (s[k].toNat % 16) j) (s[k + j].toNat % 64) (by omega) (by omega) (by omega) (by omega)
      by_cases hc : s[k + j].toNat / 64 = 2
      · have Hc := Lib.hid hc
        have e1 := bits192 s[k + j] hc
        clear hc
        go_wp2
        go_round
        case rel =>
          refine ⟨j + 1, by omega, by omega, by go_num, ?_, allC_next HA.out (by rw [Hj.out]; exact Hc.out)⟩
          rw [accF_next s k _ j g1, Hj.out]
        case measure => simp [intOf]; omega
      · have Hc := Lib.hid hc
        have e1 := bits192' s[k + j] hc
        clear hc
        go_wp2
        go_ret2
        have hn := Hc.out
        have h00 : ((s.get! k).toNat : Int) = s[k].toNat := by rw [H0.out]
        rw [← Hj.out] at hn
        go_light
        obtain rfl | rfl : j = 1 ∨ j = 2 := by omega
        all_goals exact ⟨form_ret (formD_bad (by omega) (by omega) h) rfl, rfl⟩
    · obtain rfl : j = 3 := by omega
      have HL := Lib.hid (allC_3 HA.out)
      have hbd := accF_bd s k (s[k].toNat % 16) (by omega) (by omega) 3 (by omega)
      clear HA
      go_wp2
      all_goals
        have h00 : ((s.get! k).toNat : Int) = s[k].toNat := by rw [H0.out]
        go_ret2
        refine ⟨form_ret ?_ ?_, rfl⟩
        · skip
          go_light
          simp only [accF, Nat.zero_add, Nat.reduceAdd] at *
          rw [formD_three (by omega) (by omega) HL.out.1 HL.out.2]
          first | (rw [if_pos (by omega)]; rfl) | (rw [if_neg (by omega)]; apply Prod.ext <;> simp only <;> omega) | (apply Prod.ext <;> simp only <;> omega)
        · rfl

set_option maxRecDepth 100000 in
set_option maxHeartbeats 1000000 in
theorem form_4 (s : ByteArray) (k : Nat) (w : World) (hs : s.size ≤ 9223372036854775800) (h : k < s.size) (h1 : 240 ≤ (s[k].toNat : Int)) (h2 : (s[k].toNat : Int) ≤ 244) (h3 : (k : Int) + 4 ≤ s.size) :
    Calls Tryz.prog 65 #[.string s, .int .i64 k] w fun e w' => e = .returned (.tuple #[.int .i32 (formD s k).1, .int .i64 (formD s k).2]) ∧ w = w' := by
  have HN := Lib.hid (formD_N s k)
  have hb0 := UInt8.toNat_lt s[k]
  have H0 := Lib.hid (get!_eq s k h)
  have hk0 : ¬ (k : Int) < 0 := by omega
  go_enter Tryz.func65, Tryz.ntmps65
  go_wp2
  go_loop [8, 9] (fun r i => ∃ j : Nat, 1 ≤ j ∧ j ≤ 4 ∧ i = .int .i64 j ∧ r = .int .i32 (accF s k (s[k].toNat % 8) j) ∧ allC s k j) (fun _ i => 4 - (intOf i).toNat)
  case atStart => exact ⟨1, by omega, by omega, rfl, rfl, allC_one s k⟩
  case round =>
    obtain ⟨j, g1, g2, rfl, rfl, hall⟩ := hrel
    have HA := Lib.hid hall
    clear hall
    by_cases hj : j < 4
    · have hkj : k + j < s.size := by omega
      have Hj := Lib.hid (get!_eq s (k + j) hkj)
      have hbd := accF_bd s k (s[k].toNat % 8) (by omega) (by omega) j (by omega)
      have hlt := accF_lt s k (s[k].toNat % 8) (by omega) (by omega) j (by omega)
      have hbj := UInt8.toNat_lt s[k + j]
      have hor := i32_acc (accF s k (s[k].toNat % 8) j) (s[k + j].toNat % 64) (by omega) (by omega) (by omega) (by omega)
      by_cases hc : s[k + j].toNat / 64 = 2
      · have Hc := Lib.hid hc
        have e1 := bits192 s[k + j] hc
        clear hc
        go_wp2
        go_round
        case rel =>
          refine ⟨j + 1, by omega, by omega, by go_num, ?_, allC_next HA.out (by rw [Hj.out]; exact Hc.out)⟩
          rw [accF_next s k _ j g1, Hj.out]
        case measure => simp [intOf]; omega
      · have Hc := Lib.hid hc
        have e1 := bits192' s[k + j] hc
        clear hc
        go_wp2
        go_ret2
        have hn := Hc.out
        have h00 : ((s.get! k).toNat : Int) = s[k].toNat := by rw [H0.out]
        rw [← Hj.out] at hn
        go_light
        obtain rfl | rfl | rfl : j = 1 ∨ j = 2 ∨ j = 3 := by omega
        all_goals exact ⟨form_ret (formD_bad (by omega) (by omega) h) rfl, rfl⟩
    · obtain rfl : j = 4 := by omega
      have HL := Lib.hid (allC_4 HA.out)
      have hbd := accF_bd s k (s[k].toNat % 8) (by omega) (by omega) 4 (by omega)
      clear HA
      go_wp2
      all_goals
        have h00 : ((s.get! k).toNat : Int) = s[k].toNat := by rw [H0.out]
        go_ret2
        refine ⟨form_ret ?_ ?_, rfl⟩
        · skip
          go_light
          simp only [accF, Nat.zero_add, Nat.reduceAdd] at *
          rw [formD_four (by omega) (by omega) HL.out.1 HL.out.2.1 HL.out.2.2]
          first | (rw [if_pos (by omega)]; rfl) | (rw [if_neg (by omega)]; apply Prod.ext <;> simp only <;> omega) | (apply Prod.ext <;> simp only <;> omega)
        · rfl

theorem form_in (s : ByteArray) (k : Nat) (w : World) (hs : s.size ≤ 9223372036854775800) (h : k < s.size) :
    Calls Tryz.prog 65 #[.string s, .int .i64 k] w fun e w' => e = .returned (.tuple #[.int .i32 (formD s k).1, .int .i64 (formD s k).2]) ∧ w = w' := by
  by_cases c2 : 194 ≤ (s[k].toNat : Int) ∧ (s[k].toNat : Int) ≤ 223 ∧ (k : Int) + 2 ≤ s.size
  · exact form_2 s k w hs h c2.1 c2.2.1 c2.2.2
  by_cases c3 : 224 ≤ (s[k].toNat : Int) ∧ (s[k].toNat : Int) ≤ 239 ∧ (k : Int) + 3 ≤ s.size
  · exact form_3 s k w hs h c3.1 c3.2.1 c3.2.2
  by_cases c4 : 240 ≤ (s[k].toNat : Int) ∧ (s[k].toNat : Int) ≤ 244 ∧ (k : Int) + 4 ≤ s.size
  · exact form_4 s k w hs h c4.1 c4.2.1 c4.2.2
  exact form_short s k w hs h (by omega)
end Go.Proofs.YtjldgcpmdcoejaaGreatDoor
