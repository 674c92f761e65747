/- Walks: isName, isKey, isStyle of messages. -/
import Derived.Test.YtjldgcpmdcoejaaGreatDoorPB
import Derived.Test.YtjldgcpmdcoejaaGreatDoorDT
import Derived.Test.YtjldgcpmdcoejaaGreatDoorWCheck
namespace Go.Proofs.YtjldgcpmdcoejaaGreatDoor
open Go.RowKit

set_option maxRecDepth 100000 in
set_option maxHeartbeats 400000 in
/-- isName. -/
theorem isName_any (s : ByteArray) (w : World) (hs : s.size ≤ 9223372036854775000) :
    Calls Tryz.prog 114 #[.string s] w fun e w' => e = .returned (.bool (isNameB s)) ∧ w = w' := by
  have hN := isname_any s hs w
  obtain ⟨b, hb⟩ : ∃ b, (allB nameI s && startI (byt s 0)) = b := ⟨_, rfl⟩
  rw [hb] at hN
  have HK : Hid (isNameB s = (b && decide (s.size ≤ 64))) := by unfold Hid isNameB; rw [hb]
  have HN := Lib.hid hN
  clear hN hb
  cases b
  · go_enter Tryz.func114, Tryz.ntmps114
    go_wp2_with (go_at_call 151; refine HN.out.mono ?_; rintro e w' ⟨rfl, rfl⟩)
    go_ret
    exact ⟨by rw [HK.out]; rfl, rfl⟩
  · have e1 : decide ((s.size : Int) ≤ 64) = decide (s.size ≤ 64) := by simp; omega
    have HE1 := Lib.hid e1
    clear e1
    go_enter Tryz.func114, Tryz.ntmps114
    go_wp2_with (go_at_call 151; refine HN.out.mono ?_; rintro e w' ⟨rfl, rfl⟩)
    go_ret
    exact ⟨by rw [HK.out, ← HE1.out]; simp, rfl⟩

theorem cut_is (s : ByteArray) (h : Lib.hasPrefix s.data.toList [61] = true) : (⟨(Lib.trimPrefix s.data.toList [61]).toArray⟩ : ByteArray) = s.extract 1 s.size := by
  apply ByteArray.ext
  apply Array.toList_inj.1
  unfold Lib.trimPrefix
  rw [if_pos h]
  simp only [ByteArray.data_extract, Array.toList_extract, List.extract_eq_drop_take', List.length_singleton]
  rw [List.take_of_length_le (by rw [size_len]; omega)]
/-- strings.Fields of the words for kinds of plural, and whether a word is among them. -/
theorem cats_any (W : World) (n : Nat) (hn : W.heap.size = n) (t : ByteArray) : Calls Tryz.prog 97 #[.slice (some ⟨n, 0, none⟩) 6 6, .string t] (W.alloc (.cells #[.string ⟨#[122, 101, 114, 111]⟩, .string ⟨#[111, 110, 101]⟩, .string ⟨#[116, 119, 111]⟩, .string ⟨#[102, 101, 119]⟩, .string ⟨#[109, 97, 110, 121]⟩, .string ⟨#[111, 116, 104, 101, 114]⟩] 9)) fun e w' => e = .returned (.bool (memW catsW t)) ∧ w' = W.alloc (.cells #[.string ⟨#[122, 101, 114, 111]⟩, .string ⟨#[111, 110, 101]⟩, .string ⟨#[116, 119, 111]⟩, .string ⟨#[102, 101, 119]⟩, .string ⟨#[109, 97, 110, 121]⟩, .string ⟨#[111, 116, 104, 101, 114]⟩] 9) :=
  words_contain W n hn catsW t (by decide)
theorem catf_any {B : Nat} (W : World) (hE : EnvM B W) : Calls Tryz.prog 98 #[.string ⟨#[122, 101, 114, 111, 32, 111, 110, 101, 32, 116, 119, 111, 32, 102, 101, 119, 32, 109, 97, 110, 121, 32, 111, 116, 104, 101, 114]⟩] W fun e w' => e = .returned (.slice (some ⟨W.heap.size, 0, none⟩) 6 6) ∧ w' = W.alloc (.cells #[.string ⟨#[122, 101, 114, 111]⟩, .string ⟨#[111, 110, 101]⟩, .string ⟨#[116, 119, 111]⟩, .string ⟨#[102, 101, 119]⟩, .string ⟨#[109, 97, 110, 121]⟩, .string ⟨#[111, 116, 104, 101, 114]⟩] 9) :=
  fields_words (B := B) _ catsW W hE (by decide) (by decide) (by decide)
set_option maxRecDepth 100000 in
set_option maxHeartbeats 1000000 in
/-- isKey. -/
theorem isKey_any {B : Nat} (s : ByteArray) (k : Int) (w : World) (hE : EnvM B w) (hs : s.size ≤ 1000000000) :
    Calls Tryz.prog 80 #[.string s, .int .i64 k] w fun e w' => e = .returned (.bool (isKeyB k s)) ∧ Keep [] w w' := by
  have HE := Lib.hid hE
  by_cases hk : k = 4
  · subst hk
    have HN := Lib.hid (isName_any s w (by omega))
    clear hE
    go_enter Tryz.func80, Tryz.ntmps80
    go_wp2_with (go_at_call 114; refine HN.out.mono ?_; rintro e w' ⟨rfl, rfl⟩)
    go_ret
    exact ⟨rfl, Keep.refl _ _⟩
  · have hk4 : (k == 4) = false := by simpa using hk
    have hP := Tryz.strings_CutPrefix s ⟨#[61]⟩ w
    change Calls Tryz.prog 116 #[.string s, .string ⟨#[61]⟩] w fun e w' => e = .returned (.tuple #[.string ⟨(Lib.trimPrefix s.data.toList [61]).toArray⟩, .bool (Lib.hasPrefix s.data.toList [61])]) ∧ w' = w at hP
    cases hh : Lib.hasPrefix s.data.toList [61]
    · rw [hh] at hP
      have HP := Lib.hid hP
      have HK : Hid (isKeyB k s = memW catsW s) := by unfold Hid isKeyB; rw [if_neg hk, if_neg (by simp [hh])]
      clear hE hP hh hk
      go_enter Tryz.func80, Tryz.ntmps80
      go_wp2_with (first | (go_at_call 116; refine HP.out.mono ?_; rintro e w' ⟨rfl, rfl⟩) | (go_at_call 98; refine (catf_any (B := B) _ HE.out).mono ?_; rintro x w3 ⟨rfl, rfl⟩) | (go_at_call 97; refine (cats_any _ _ rfl s).mono ?_; rintro x w4 ⟨rfl, rfl⟩))
      go_ret
      exact ⟨by rw [HK.out]; rfl, (Keep.refl _ _).alloc _⟩
    · rw [hh, cut_is s hh] at hP
      have HP := Lib.hid hP
      have HN := Lib.hid (number_any w (s.extract 1 s.size) hE (by rw [ByteArray.size_extract]; omega))
      have HK : Hid (isKeyB k s = (numV (s.extract 1 s.size)).isSome) := by unfold Hid isKeyB; rw [if_neg hk, if_pos hh]
      clear hE hP hh hk
      go_enter Tryz.func80, Tryz.ntmps80
      go_wp2_with (first | (go_at_call 116; refine HP.out.mono ?_; rintro e w' ⟨rfl, rfl⟩) | (go_at_call 117; refine HN.out.mono ?_; rintro e w' ⟨v, rfl, _, hb⟩))
      go_ret
      exact ⟨by rw [HK.out]; rfl, Keep.of_below hb⟩

/-! ### isStyle -/
theorem field_spot (W : World) (a b : Value) : (Instr.field 36 (.agg #[a, b]) 0).run Tryz.prog W = .ok a W := by
  simp [Instr.field, go_sem, asAgg]
def quoC : ByteArray := ⟨#[123, 125, 39]⟩
theorem quoC_few : Few quoC := ⟨fun b hb => by
    have : b ∈ ([123, 125, 39] : List UInt8) := hb
    simp at this
    rcases this with rfl | rfl | rfl <;> decide, by decide, by decide⟩
theorem quoC_is : quoC.data.toList.contains = quoB := by
  funext b
  show ([123, 125, 39] : List UInt8).contains b = _
  rw [Bool.eq_iff_iff]; simp [quoB, or_assoc]
theorem any_idx (l C : List UInt8) : decide (0 ≤ Lib.indexAny l C) = l.any C.contains := by
  rw [indexAny_is]
  cases l.any C.contains <;> simp
set_option maxRecDepth 100000 in
set_option maxHeartbeats 1000000 in
/-- isStyle. -/
theorem isStyle_any (s : ByteArray) (w : World) (hs : s.size ≤ 1000000000) :
    Calls Tryz.prog 113 #[.string s] w fun e w' => e = .returned (.bool (isStyleB s)) ∧ Keep [] w w' := by
  have HT : ∀ W, Hid (Calls Tryz.prog 144 #[.string s] W fun e w' => e = .returned (.string (trimB s)) ∧ Keep [] W w') := fun W => (utrim_any s W (by omega)).mono fun e w' ⟨h1, h2⟩ => ⟨h1, Keep.of_below h2⟩
  have HC : ∀ W, Hid (Calls Tryz.prog 30 #[.string s] W fun e w' => e = .returned (.agg #[.int .i64 (spotErr s), .int .i64 (spotAt s)]) ∧ Keep [] W w') := fun W => (check_any s W (by omega)).mono fun e w' ⟨h1, h2⟩ => ⟨h1, Keep.of_below h2⟩
  have HA : ∀ W, Hid (Calls Tryz.prog 150 #[.string s, .string ⟨#[123, 125, 39]⟩] W fun e w' => e = .returned (.bool (s.data.toList.any quoB)) ∧ Keep [] W w') := fun W => (cany_any s quoC quoC_few W (by omega)).mono fun e w' ⟨h1, h2⟩ => ⟨by rw [h1, any_idx, quoC_is], h2⟩
  have b1 : s.toList.isEmpty = noB s := by
    unfold noB
    by_cases h : s.size = 0
    · rw [empty_iff.2 h, decide_eq_true h]
    · rw [not_empty h, decide_eq_false h]
  have b2 : ((trimB s).toList == s.toList) = decide (trimB s = s) := bytes_beq _ _
  have b3 : (spotErr s == 0) = decide (brk s < 0) := by unfold spotErr; split <;> simp [*]
  have b4 : decide ((s.size : Int) ≤ 64) = decide (s.size ≤ 64) := by simp; omega
  have HKK : Hid (isStyleB s = (!noB s && decide (s.size ≤ 64) && decide (trimB s = s) && decide (brk s < 0) && !(s.data.toList.any quoB))) := rfl
  generalize decide (trimB s = s) = q2 at *
  generalize decide (brk s < 0) = q3 at *
  generalize noB s = q1 at *
  generalize s.data.toList.any quoB = q5 at *
  obtain ⟨q4, h4⟩ : ∃ q4, decide (s.size ≤ 64) = q4 := ⟨_, rfl⟩
  rw [h4] at b4 HKK
  clear h4
  have b4' : ((s.size : Int) ≤ 64) ↔ q4 = true := by rw [← b4]; simp
  have hfs := fun W => field_spot W (.int .i64 (spotErr s)) (.int .i64 (spotAt s))
  cases q1
  case true =>
    have HK : Hid (isStyleB s = false) := by unfold Hid; rw [HKK.out]; rfl
    go_enter Tryz.func113, Tryz.ntmps113
    go_wp2_with fail
    go_ret
    exact ⟨by rw [HK.out]; rfl, Keep.refl _ _⟩
  case false =>
    cases q4
    case false =>
      have HK : Hid (isStyleB s = false) := by unfold Hid; rw [HKK.out]; rfl
      go_enter Tryz.func113, Tryz.ntmps113
      go_wp2_with fail
      go_ret
      exact ⟨by rw [HK.out]; rfl, Keep.refl _ _⟩
    case true =>
      cases q2
      case false =>
        have HK : Hid (isStyleB s = false) := by unfold Hid; rw [HKK.out]; rfl
        go_enter Tryz.func113, Tryz.ntmps113
        go_wp2_with (go_at_call 144; refine (HT _).out.mono ?_; rintro e w2 ⟨rfl, hk2⟩)
        go_ret
        exact ⟨by rw [HK.out]; rfl, hk2⟩
      case true =>
        cases q3
        case false =>
          have HK : Hid (isStyleB s = false) := by unfold Hid; rw [HKK.out]; rfl
          go_enter Tryz.func113, Tryz.ntmps113
          go_wp2_with (first | (go_at_call 144; refine (HT _).out.mono ?_; rintro e w2 ⟨rfl, hk2⟩) | (go_at_call 30; refine (HC _).out.mono ?_; rintro e w3 ⟨rfl, hk3⟩))
          go_ret
          exact ⟨by rw [HK.out]; rfl, hk2.nil hk3⟩
        case true =>
          have HK : Hid (isStyleB s = !q5) := by unfold Hid; rw [HKK.out]; rfl
          go_enter Tryz.func113, Tryz.ntmps113
          go_wp2_with (first | (go_at_call 144; refine (HT _).out.mono ?_; rintro e w2 ⟨rfl, hk2⟩) | (go_at_call 30; refine (HC _).out.mono ?_; rintro e w3 ⟨rfl, hk3⟩) | (go_at_call 150; refine (HA _).out.mono ?_; rintro e w4 ⟨rfl, hk4⟩))
          go_ret
          exact ⟨by rw [HK.out]; rfl, (hk2.nil hk3).nil hk4⟩
end Go.Proofs.YtjldgcpmdcoejaaGreatDoor
