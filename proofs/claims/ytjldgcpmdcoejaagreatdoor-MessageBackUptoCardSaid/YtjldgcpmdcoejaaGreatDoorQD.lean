/- Walks: vernacularref19.special, double, Dress: a text in its quotes. -/
import Derived.Test.YtjldgcpmdcoejaaGreatDoorDT
namespace Go.Proofs.YtjldgcpmdcoejaaGreatDoor
open Go.RowKit

theorem bytes_ext {a b : ByteArray} (h : a.data.toList = b.data.toList) : a = b := ByteArray.ext (Array.toList_inj.1 h)
theorem add_run19 (a b : ByteArray) (h : a.size + b.size ≤ 9000000000) : ∀ W, (Op.stringOp .add a b).run Tryz.prog W = .ok (.string (a ++ b)) W :=
  fun W => run_string_add_sum W _ _ (by omega)
def dblT (s : ByteArray) (k : Nat) : ByteArray := ⟨(dbl (s.data.toList.take k)).toArray⟩
theorem get_ext' (s : ByteArray) (q : Nat) (h : q < s.size) : (s.extract q (q + 1)).data.toList = [s[q]] := by
  have hl : q < s.data.toList.length := by simpa using h
  rw [ByteArray.data_extract, Array.toList_extract, List.extract_eq_drop_take', List.drop_take, show q + 1 - q = 1 from by omega, List.drop_eq_getElem_cons hl]
  rfl
theorem take_byte (s : ByteArray) (k : Nat) (h : k < s.size) : s.data.toList.take (k + 1) = s.data.toList.take k ++ [s[k]] := by
  have hl : k < s.data.toList.length := by simpa using h
  rw [List.take_succ_eq_append_getElem hl]; rfl
theorem dblT_ne (s : ByteArray) (k : Nat) (h : k < s.size) (hb : s[k].toNat ≠ 39) : dblT s k ++ s.extract k (k + 1) = dblT s (k + 1) := by
  apply bytes_ext
  have h1 : s[k] ≠ 39 := fun h => hb (by rw [h]; rfl)
  simp only [ByteArray.data_append, Array.toList_append, get_ext' s k h, dblT, take_byte s k h, dbl_append]
  simp [dbl, h1]
theorem dblT_eq (s : ByteArray) (k : Nat) (h : k < s.size) (hb : s[k].toNat = 39) : (dblT s k ++ s.extract k (k + 1)) ++ ⟨#[39]⟩ = dblT s (k + 1) := by
  apply bytes_ext
  have h1 : s[k] = 39 := UInt8.toNat_inj.1 hb
  simp only [ByteArray.data_append, Array.toList_append, get_ext' s k h, dblT, take_byte s k h, dbl_append]
  simp [dbl, h1]
theorem dblT_size (s : ByteArray) (k : Nat) : (dblT s k).size ≤ 2 * s.size := by
  have h1 := dbl_le (s.data.toList.take k)
  have h2 : (dblT s k).size = (dbl (s.data.toList.take k)).length := by show (dbl _).toArray.size = _; simp
  have h3 : (s.data.toList.take k).length ≤ s.size := by rw [List.length_take, size_len]; omega
  omega
theorem dblT_all (s : ByteArray) : dblT s s.size = dblB s := by
  unfold dblT dblB; rw [List.take_of_length_le (by rw [size_len]; omega)]
set_option maxRecDepth 100000 in
theorem special_any (b : UInt8) (h : Bool) (w : World) :
    Calls Tryz.prog 33 #[.int .u8 (b.toNat : Int), .bool h] w fun e w' => e = .returned (.bool (specB h b)) ∧ w = w' := by
  have key : specB h b = (decide (b.toNat = 123) || decide (b.toNat = 125) || (decide (b.toNat = 35) && h)) := by
    have e : ∀ n : Nat, n < 256 → (b == n.toUInt8) = decide (b.toNat = n) := fun n hn => by
      rw [Bool.eq_iff_iff]; simp [← UInt8.toNat_inj, Nat.mod_eq_of_lt hn]
    unfold specB
    rw [show (123 : UInt8) = (123 : Nat).toUInt8 from rfl, show (125 : UInt8) = (125 : Nat).toUInt8 from rfl, show (35 : UInt8) = (35 : Nat).toUInt8 from rfl, e 123 (by omega), e 125 (by omega), e 35 (by omega)]
  rw [key]
  clear key
  generalize b.toNat = n
  go_enter Tryz.func33, Tryz.ntmps33
  by_cases h1 : n = 123
  · subst h1; go_wp2; go_ret; exact ⟨rfl, rfl⟩
  · have e1 : ((n : Int) == 123) = false := by simp; omega
    by_cases h2 : n = 125
    · subst h2; go_wp2; go_ret; exact ⟨rfl, rfl⟩
    · have e2 : ((n : Int) == 125) = false := by simp; omega
      by_cases h3 : n = 35
      · subst h3; cases h <;> (go_wp2; go_ret; exact ⟨rfl, rfl⟩)
      · have e3 : ((n : Int) == 35) = false := by simp; omega
        have hx : (decide (n = 123) || decide (n = 125) || (decide (n = 35) && h)) = false := by simp [h1, h2, h3]
        rw [hx]; clear hx h1 h2 h3
        go_wp2; go_ret; exact ⟨rfl, rfl⟩
set_option maxRecDepth 100000 in
theorem double19_any (s : ByteArray) (w : World) (hs : s.size ≤ 1000000000) :
    Calls Tryz.prog 34 #[.string s] w fun e w' => e = .returned (.string (dblB s)) ∧ w = w' := by
  go_enter Tryz.func34, Tryz.ntmps34
  go_wp2
  go_loop [3, 4] (fun t i => ∃ k : Nat, k ≤ s.size ∧ i = .int .i64 k ∧ t = .string (dblT s k)) (fun _ i => s.size - (intOf i).toNat)
  case atStart => exact ⟨0, Nat.zero_le _, rfl, rfl⟩
  case round =>
    obtain ⟨k, hk, rfl, rfl⟩ := hrel
    by_cases hlt : k < s.size
    · have z1 := dblT_size s k
      have z2 : (s.extract k (k + 1)).size = 1 := by rw [ByteArray.size_extract]; omega
      have HA1 := add_run19 (dblT s k) (s.extract k (k + 1)) (by omega)
      have z3 : (dblT s k ++ s.extract k (k + 1)).size = (dblT s k).size + 1 := by rw [ByteArray.size_append, z2]
      have z4 : (⟨#[39]⟩ : ByteArray).size = 1 := rfl
      have HA2 := add_run19 (dblT s k ++ s.extract k (k + 1)) ⟨#[39]⟩ (by omega)
      by_cases hb : s[k].toNat = 39
      · have HD := Lib.hid (dblT_eq s k hlt hb)
        go_wp2_with fail
        go_round
        case rel => exact ⟨k + 1, by omega, by go_num, by rw [HD.out]⟩
        case measure => simp [intOf]; omega
      · have HD := Lib.hid (dblT_ne s k hlt hb)
        have e1 : ((s[k].toNat : Int) == 39) = false := by simp; omega
        go_wp2_with fail
        go_round
        case rel => exact ⟨k + 1, by omega, by go_num, by rw [HD.out]⟩
        case measure => simp [intOf]; omega
    · obtain rfl : k = s.size := by omega
      go_wp2
      go_ret
      exact ⟨by rw [dblT_all]; rfl, rfl⟩
def firstL (c : UInt8 → Bool) (l : List UInt8) : Int := if l.any c then (l.findIdx c : Int) else -1
theorem firstL_no {c : UInt8 → Bool} {t : List UInt8} {x : UInt8} (h : c x = false) : firstL c (t ++ [x]) = firstL c t := by
  unfold firstL
  rw [List.any_append, List.any_cons, h, List.any_nil, Bool.or_false, Bool.or_false]
  cases ha : t.any c
  · rfl
  · obtain ⟨y, hy, hc⟩ := List.any_eq_true.1 ha
    rw [List.findIdx_append, if_pos (List.findIdx_lt_length.2 ⟨y, hy, hc⟩)]
theorem firstL_old {c : UInt8 → Bool} {t : List UInt8} {x : UInt8} (h : t.any c = true) : firstL c (t ++ [x]) = firstL c t := by
  unfold firstL
  obtain ⟨y, hy, hc⟩ := List.any_eq_true.1 h
  rw [List.any_append, h, Bool.true_or, List.findIdx_append, if_pos (List.findIdx_lt_length.2 ⟨y, hy, hc⟩)]
theorem firstL_new {c : UInt8 → Bool} {t : List UInt8} {x : UInt8} (h : t.any c = false) (hx : c x = true) : firstL c (t ++ [x]) = t.length := by
  unfold firstL
  have hn : ¬ t.findIdx c < t.length := fun hl => by
    obtain ⟨y, hy, hc⟩ := List.findIdx_lt_length.1 hl
    exact absurd (List.any_eq_true.2 ⟨y, hy, hc⟩) (by rw [h]; decide)
  rw [List.any_append, h, List.any_cons, hx, if_pos (by rfl), List.findIdx_append, if_neg hn, List.findIdx_cons, hx]
  simp
theorem firstL_neg {c : UInt8 → Bool} {t : List UInt8} : firstL c t < 0 ↔ t.any c = false := by
  unfold firstL
  cases t.any c <;> simp
theorem lastN_snoc (c : UInt8 → Bool) (t : List UInt8) (x : UInt8) : lastN c (t ++ [x]) = if c x then t.length + 1 else lastN c t := by
  unfold lastN
  rw [List.reverse_append, List.reverse_singleton, List.singleton_append, List.findIdx_cons, List.length_append, List.length_singleton]
  cases c x
  · simp
  · simp
set_option maxRecDepth 100000 in
set_option maxHeartbeats 2000000 in
/-- vernacularref19.Dress. -/
theorem dress19_any (s : ByteArray) (h : Bool) (w : World) (hs : s.size ≤ 1000000000) :
    Calls Tryz.prog 17 #[.string s, .bool h] w fun e w' => e = .returned (.string ⟨(dressL h s.data.toList).toArray⟩) ∧ Keep [] w w' := by
  have HD : ∀ (t : ByteArray) W, t.size ≤ 1000000000 → Hid (Calls Tryz.prog 34 #[.string t] W fun e w' => e = .returned (.string (dblB t)) ∧ W = w') := fun t W ht => double19_any t W ht
  go_enter Tryz.func17, Tryz.ntmps17
  go_wp2
  go_loop [5, 6, 7] (fun a b i => ∃ k : Nat, k ≤ s.size ∧ i = .int .i64 k ∧ a = .int .i64 (firstL (specB h) (s.data.toList.take k)) ∧ b = .int .i64 ((lastN (specB h) (s.data.toList.take k) : Nat) - 1)) (fun _ _ i => s.size - (intOf i).toNat)
  case atStart => exact ⟨0, Nat.zero_le _, rfl, rfl, rfl⟩
  case round =>
    obtain ⟨k, hk, rfl, rfl, rfl⟩ := hrel
    by_cases hlt : k < s.size
    · have ht := take_byte s k hlt
      have hkl : (s.data.toList.take k).length = k := by rw [List.length_take, size_len]; omega
      have hsn := lastN_snoc (specB h) (s.data.toList.take k) s[k]
      have HS : ∀ W, Hid (Calls Tryz.prog 33 #[.int .u8 (s[k].toNat : Int), .bool h] W fun e w' => e = .returned (.bool (specB h s[k])) ∧ W = w') := fun W => special_any s[k] h W
      cases hb : specB h s[k]
      · have hf := firstL_no (t := s.data.toList.take k) hb
        rw [hb] at hsn HS
        have HF := Lib.hid hf
        have HN := Lib.hid hsn
        have HT := Lib.hid ht
        clear hf hsn ht
        generalize firstL (specB h) (s.data.toList.take k) = fi at *
        generalize lastN (specB h) (s.data.toList.take k) = la at *
        go_wp2_with (go_at_call 33; refine (HS _).out.mono ?_; rintro e w' ⟨rfl, rfl⟩)
        go_round
        case rel => exact ⟨k + 1, by omega, by go_num, by rw [HT.out, HF.out], by rw [HT.out, HN.out]; rfl⟩
        case measure => simp [intOf]; omega
      · rw [hb] at hsn HS
        cases ha : (s.data.toList.take k).any (specB h)
        · have hf := firstL_new ha hb
          have hn := firstL_neg.2 ha
          rw [hkl] at hf hsn
          have HF := Lib.hid hf
          have HN := Lib.hid hsn
          have HT := Lib.hid ht
          clear hf hsn ht ha
          generalize firstL (specB h) (s.data.toList.take k) = fi at *
          generalize lastN (specB h) (s.data.toList.take k) = la at *
          go_wp2_with (go_at_call 33; refine (HS _).out.mono ?_; rintro e w' ⟨rfl, rfl⟩)
          go_round
          case rel => exact ⟨k + 1, by omega, by go_num, by rw [HT.out, HF.out], by rw [HT.out, HN.out]; simp⟩
          case measure => simp [intOf]; omega
        · have hf := firstL_old (x := s[k]) ha
          have hn : ¬ firstL (specB h) (s.data.toList.take k) < 0 := fun h1 => by rw [firstL_neg.1 h1] at ha; cases ha
          rw [hkl] at hsn
          have HF := Lib.hid hf
          have HN := Lib.hid hsn
          have HT := Lib.hid ht
          clear hf hsn ht ha
          generalize firstL (specB h) (s.data.toList.take k) = fi at *
          generalize lastN (specB h) (s.data.toList.take k) = la at *
          go_wp2_with (go_at_call 33; refine (HS _).out.mono ?_; rintro e w' ⟨rfl, rfl⟩)
          go_round
          case rel => exact ⟨k + 1, by omega, by go_num, by rw [HT.out, HF.out], by rw [HT.out, HN.out]; simp⟩
          case measure => simp [intOf]; omega
    · obtain rfl : k = s.size := by omega
      rw [List.take_of_length_le (by rw [size_len]; omega)]
      have hln := lastN_le (specB h) s.data.toList
      rw [size_len] at hln
      by_cases ha : s.data.toList.any (specB h) = true
      · have hfl := first_last ha
        have hfi : firstL (specB h) s.data.toList = s.data.toList.findIdx (specB h) := by unfold firstL; rw [if_pos ha]
        rw [hfi]
        clear hfi
        have HR : Hid (dressL h s.data.toList = dbl (s.data.toList.take (s.data.toList.findIdx (specB h))) ++ [39] ++ dbl ((s.data.toList.take (lastN (specB h) s.data.toList)).drop (s.data.toList.findIdx (specB h))) ++ [39] ++ dbl (s.data.toList.drop (lastN (specB h) s.data.toList))) := by unfold Hid dressL; rw [if_pos ha]
        clear ha
        generalize s.data.toList.findIdx (specB h) = a at *
        generalize lastN (specB h) s.data.toList = b at *
        have e1 : ((b : Int) - 1) + 1 = b := by omega
        have d1 := dblB_size (s.extract 0 a)
        have d2 := dblB_size (s.extract a b)
        have d3 := dblB_size (s.extract b s.size)
        rw [ByteArray.size_extract] at d1 d2 d3
        obtain ⟨X, hX⟩ : ∃ X, dblB (s.extract 0 a) = X := ⟨_, rfl⟩
        obtain ⟨Y, hY⟩ : ∃ Y, dblB (s.extract a b) = Y := ⟨_, rfl⟩
        obtain ⟨Z, hZ⟩ : ∃ Z, dblB (s.extract b s.size) = Z := ⟨_, rfl⟩
        have HDX := fun W => HD (s.extract 0 a) W (by rw [ByteArray.size_extract]; omega)
        have HDY := fun W => HD (s.extract a b) W (by rw [ByteArray.size_extract]; omega)
        have HDZ := fun W => HD (s.extract b s.size) W (by rw [ByteArray.size_extract]; omega)
        rw [hX] at HDX d1
        rw [hY] at HDY d2
        rw [hZ] at HDZ d3
        have hq : (⟨#[39]⟩ : ByteArray).size = 1 := rfl
        have HA1 : ∀ W, (Op.stringOp .add X ⟨#[39]⟩).run Tryz.prog W = .ok (.string (X ++ ⟨#[39]⟩)) W := fun W => run_string_add_sum W _ _ (by rw [hq]; omega)
        have hX1 : (X ++ (⟨#[39]⟩ : ByteArray)).size ≤ 4000000000 := by rw [ByteArray.size_append, hq]; omega
        obtain ⟨X1, hX1e⟩ : ∃ X1, X ++ (⟨#[39]⟩ : ByteArray) = X1 := ⟨_, rfl⟩
        rw [hX1e] at HA1 hX1
        have HA2 : ∀ W, (Op.stringOp .add X1 Y).run Tryz.prog W = .ok (.string (X1 ++ Y)) W := fun W => run_string_add_sum W _ _ (by omega)
        have hX2 : (X1 ++ Y).size ≤ 8000000000 := by rw [ByteArray.size_append]; omega
        obtain ⟨X2, hX2e⟩ : ∃ X2, X1 ++ Y = X2 := ⟨_, rfl⟩
        rw [hX2e] at HA2 hX2
        have HA3 : ∀ W, (Op.stringOp .add X2 ⟨#[39]⟩).run Tryz.prog W = .ok (.string (X2 ++ ⟨#[39]⟩)) W := fun W => run_string_add_sum W _ _ (by rw [hq]; omega)
        have hX3 : (X2 ++ (⟨#[39]⟩ : ByteArray)).size ≤ 9000000000 := by rw [ByteArray.size_append, hq]; omega
        obtain ⟨X3, hX3e⟩ : ∃ X3, X2 ++ (⟨#[39]⟩ : ByteArray) = X3 := ⟨_, rfl⟩
        rw [hX3e] at HA3 hX3
        have HA4 : ∀ W, (Op.stringOp .add X3 Z).run Tryz.prog W = .ok (.string (X3 ++ Z)) W := fun W => run_string_add_sum W _ _ (by omega)
        have HR2 : Hid (X3 ++ Z = ⟨(dressL h s.data.toList).toArray⟩) := by
          unfold Hid
          rw [HR.out, ← hX3e, ← hX2e, ← hX1e, ← hX, ← hY, ← hZ]
          apply ByteArray.ext
          apply Array.toList_inj.1
          have g1 : (s.extract 0 a).data.toList = s.data.toList.take a := by simp [ByteArray.data_extract]
          have g2 : (s.extract a b).data.toList = (s.data.toList.take b).drop a := by simp [ByteArray.data_extract, List.extract_eq_drop_take']
          have g3 : (s.extract b s.size).data.toList = s.data.toList.drop b := by
            simp only [ByteArray.data_extract, Array.toList_extract, List.extract_eq_drop_take']
            rw [List.take_of_length_le (by rw [size_len]; omega)]
          simp only [ByteArray.data_append, Array.toList_append, dblB, g1, g2, g3]
        clear HR hX3e hX2e hX1e hX hY hZ HD d1 d2 d3 hq hX1 hX2 hX3
        have hab : (a : Int) ≤ b := by omega
        have hbs : (b : Int) ≤ s.size := by omega
        have has : (a : Int) ≤ s.size := by omega
        have hna : ¬ (a : Int) < 0 := by omega
        have s1 : IntKind.i64.wrap (b : Int) = (b : Int) := IntWalk.i64_in _ (by omega)
        go_wp2_with fail
        go_region_with (first | (go_at_call_of 34 (Value.string (s.extract 0 a)); refine (HDX _).out.mono ?_; rintro e w3 ⟨rfl, rfl⟩) | (go_at_call_of 34 (Value.string (s.extract a b)); refine (HDY _).out.mono ?_; rintro e w4 ⟨rfl, rfl⟩) | (go_at_call_of 34 (Value.string (s.extract b s.size)); refine (HDZ _).out.mono ?_; rintro e w5 ⟨rfl, rfl⟩))
        go_wp2
        go_ret
        exact ⟨by rw [← HR2.out]; rfl, (Keep.refl _ _).drew⟩
      · have hfi : firstL (specB h) s.data.toList = -1 := by unfold firstL; rw [if_neg ha]
        rw [hfi]
        have HR : Hid (⟨(dressL h s.data.toList).toArray⟩ = dblB s) := by unfold Hid dressL; rw [if_neg ha]; rfl
        clear ha hfi
        generalize lastN (specB h) s.data.toList = b at *
        have HD1 := fun W => HD s W hs
        clear HD
        go_wp2_with (go_at_call 34; refine (HD1 _).out.mono ?_; rintro e w' ⟨rfl, rfl⟩)
        go_ret
        exact ⟨by rw [HR.out]; rfl, Keep.refl _ _⟩
end Go.Proofs.YtjldgcpmdcoejaaGreatDoor
