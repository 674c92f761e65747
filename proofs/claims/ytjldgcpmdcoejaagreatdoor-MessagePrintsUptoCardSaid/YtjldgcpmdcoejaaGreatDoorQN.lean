/- Walks: vernacularref02's kinds of bytes, vernacularref15's numbers and words, vernacularref19's names, keys, styles, types. -/
import Derived.Test.YtjldgcpmdcoejaaGreatDoorQI
import Derived.Test.YtjldgcpmdcoejaaGreatDoorQD
import Derived.Test.YtjldgcpmdcoejaaGreatDoorRT
import Derived.Test.YtjldgcpmdcoejaaGreatDoorTR
import Derived.Test.YtjldgcpmdcoejaaGreatDoorMC
namespace Go.Proofs.YtjldgcpmdcoejaaGreatDoor
open Go.RowKit

set_option maxRecDepth 100000 in
set_option maxHeartbeats 400000 in
theorem letter02_any (x : Int) (w : World) :
    Calls Tryz.prog 177 #[.int .u8 x] w fun e w' => e = .returned (.bool (ltrI x)) ∧ w = w' := by
  go_enter Tryz.func177, Tryz.ntmps177
  go_wp2
  all_goals
    have key : ltrI x = decide ((97 ≤ x ∧ x ≤ 122) ∨ (65 ≤ x ∧ x ≤ 90)) := by unfold ltrI; simp
    go_ret
    exact ⟨by rw [key]; simp [*] <;> omega, rfl⟩
set_option maxRecDepth 100000 in
set_option maxHeartbeats 400000 in
theorem digit02_any (x : Int) (w : World) :
    Calls Tryz.prog 178 #[.int .u8 x] w fun e w' => e = .returned (.bool (digI x)) ∧ w = w' := by
  go_enter Tryz.func178, Tryz.ntmps178
  go_wp2
  all_goals
    have key : digI x = decide (48 ≤ x ∧ x ≤ 57) := by unfold digI; simp
    go_ret
    exact ⟨by rw [key]; simp [*] <;> omega, rfl⟩
set_option maxRecDepth 100000 in
set_option maxHeartbeats 400000 in
theorem start02_any (x : Int) (w : World) :
    Calls Tryz.prog 156 #[.int .u8 x] w fun e w' => e = .returned (.bool (startI x)) ∧ w = w' := by
  have key : startI x = (ltrI x || x == 95) := rfl
  have HL := fun W => letter02_any x W
  cases hl : ltrI x
  all_goals
    rw [hl] at key HL
    go_enter Tryz.func156, Tryz.ntmps156
    go_wp2_with (go_at_call 177; refine (HL _).mono ?_; rintro e w' ⟨rfl, rfl⟩)
    all_goals
      go_ret
      exact ⟨by rw [key]; simp, rfl⟩
set_option maxRecDepth 100000 in
set_option maxHeartbeats 400000 in
theorem byte02_any (x : Int) (w : World) :
    Calls Tryz.prog 157 #[.int .u8 x] w fun e w' => e = .returned (.bool (nameI x)) ∧ w = w' := by
  have key : nameI x = (startI x || digI x || x == 45 || x == 46) := rfl
  have HS := fun W => start02_any x W
  have HD := fun W => digit02_any x W
  cases hl : startI x <;> cases hd : digI x
  all_goals
    rw [hl] at key HS
    rw [hd] at key HD
    go_enter Tryz.func157, Tryz.ntmps157
    go_wp2_with (first | (go_at_call 156; refine (HS _).mono ?_; rintro e w' ⟨rfl, rfl⟩) | (go_at_call 178; refine (HD _).mono ?_; rintro e w' ⟨rfl, rfl⟩))
    all_goals
      go_ret
      exact ⟨by rw [key]; simp [*], rfl⟩
set_option maxRecDepth 100000 in
theorem nameStart02_any (x : Int) (w : World) :
    Calls Tryz.prog 120 #[.int .u8 x] w fun e w' => e = .returned (.bool (startI x)) ∧ w = w' := by
  have HS := fun W => start02_any x W
  generalize startI x = b at *
  go_enter Tryz.func120, Tryz.ntmps120
  go_wp2_with (go_at_call 156; refine (HS _).mono ?_; rintro e w' ⟨rfl, rfl⟩)
  go_ret
  exact ⟨rfl, rfl⟩
set_option maxRecDepth 100000 in
theorem nameByte02_any (x : Int) (w : World) :
    Calls Tryz.prog 121 #[.int .u8 x] w fun e w' => e = .returned (.bool (nameI x)) ∧ w = w' := by
  have HS := fun W => byte02_any x W
  generalize nameI x = b at *
  go_enter Tryz.func121, Tryz.ntmps121
  go_wp2_with (go_at_call 157; refine (HS _).mono ?_; rintro e w' ⟨rfl, rfl⟩)
  go_ret
  exact ⟨rfl, rfl⟩
set_option maxRecDepth 100000 in
set_option maxHeartbeats 400000 in
theorem blank19_any (x : Int) (w : World) :
    Calls Tryz.prog 122 #[.int .u8 x] w fun e w' => e = .returned (.bool (blI x)) ∧ w = w' := by
  have key : blI x = (x == 9 || x == 10 || x == 13 || x == 32) := rfl
  go_enter Tryz.func122, Tryz.ntmps122
  by_cases h1 : x = 32
  · subst h1; go_wp2; go_ret; exact ⟨rfl, rfl⟩
  · have e1 : (x == 32) = false := by simpa using h1
    by_cases h2 : x = 9
    · subst h2; go_wp2; go_ret; exact ⟨rfl, rfl⟩
    · have e2 : (x == 9) = false := by simpa using h2
      by_cases h3 : x = 10
      · subst h3; go_wp2; go_ret; exact ⟨rfl, rfl⟩
      · have e3 : (x == 10) = false := by simpa using h3
        rw [e1, e2, e3] at key
        clear h1 h2 h3
        go_wp2
        go_ret
        exact ⟨by rw [key]; simp, rfl⟩
/-! ### names -/
/-- How many bytes from the beginning on are a name. -/
def nameN (s : ByteArray) : Nat := if startI (byt s 0) then nameE s 1 else 0
theorem start_in {s : ByteArray} (h : startI (byt s 0) = true) : 0 < s.size := by
  rcases Nat.eq_zero_or_pos s.size with h1 | h1
  · rw [byt_out (by omega)] at h; exact absurd h (by decide)
  · exact h1
theorem nameN_le (s : ByteArray) : nameN s ≤ s.size := by
  unfold nameN; split
  · rename_i h; exact nameE_le s 1 (start_in h)
  · omega
theorem start_name {x : Int} (h : startI x = true) : nameI x = true := by unfold nameI; rw [h]; rfl
theorem nameN_is (s : ByteArray) : isNameB s = (decide (0 < s.size) && decide (s.size ≤ 64) && decide (nameN s = s.size)) := by
  unfold isNameB allB nameN
  cases h : startI (byt s 0)
  · rw [Bool.and_false, Bool.false_and, if_neg (by simp)]
    cases h0 : decide (0 < s.size)
    · rfl
    · rw [decide_eq_true_eq] at h0
      rw [decide_eq_false (show ¬ 0 = s.size from by omega), Bool.and_false]
  · have h0 := start_in h
    rw [if_pos rfl, Bool.and_true, decide_eq_true h0, Bool.true_and, Bool.and_comm]
    congr 1
    rw [Bool.eq_iff_iff, decide_eq_true_eq, decide_eq_true_eq]
    unfold nameE
    have := spanF_full (fun i => nameI (byt s i)) (s.size - 1) 1
    rw [show 1 + (s.size - 1) = s.size from by omega] at this
    rw [this]
    constructor
    · intro h2 j _ hj; exact h2.2 j hj
    · intro h2
      refine ⟨by omega, fun j hj => ?_⟩
      rcases Nat.eq_zero_or_pos j with rfl | hj0
      · exact start_name h
      · exact h2 j hj0 hj
theorem nameE_next {s : ByteArray} {k : Nat} (h : k < s.size) (hb : nameI (byt s k) = true) : nameE s k = nameE s (k + 1) := by
  unfold nameE
  rw [show s.size - k = (s.size - (k + 1)) + 1 from by omega]
  exact if_pos hb
theorem nameE_stop {s : ByteArray} {k : Nat} (h : k < s.size) (hb : nameI (byt s k) = false) : nameE s k = k := by
  unfold nameE
  rw [show s.size - k = (s.size - (k + 1)) + 1 from by omega]
  exact if_neg (by show ¬ (nameI (byt s k) = true); rw [hb]; decide)
theorem nameE_end {s : ByteArray} {k : Nat} (h : s.size ≤ k) : nameE s k = k := by
  unfold nameE
  rw [show s.size - k = 0 from by omega]
  rfl
set_option maxRecDepth 100000 in
set_option maxHeartbeats 1000000 in
/-- vernacularref19.Name, from the beginning on. -/
theorem name19_any (s : ByteArray) (w : World) (hs : s.size ≤ 1000000000) :
    Calls Tryz.prog 84 #[.string s, .int .i64 0] w fun e w' => e = .returned (.int .i64 (nameN s : Nat)) ∧ w = w' := by
  by_cases h0 : 0 < s.size
  · have hne : ¬ s = ByteArray.empty := fun h => by subst h; exact absurd h0 (by decide)
    have hby := byt_in h0
    have HS := fun W => Lib.hid (nameStart02_any (s[0].toNat : Int) W)
    cases hst : startI (byt s 0)
    · have HN : Hid (nameN s = 0) := by unfold Hid nameN; rw [hst]; rfl
      rw [← hby, hst] at HS
      rw [hby] at HS
      clear hst hby
      go_enter Tryz.func84, Tryz.ntmps84
      go_wp2_with (go_at_call 120; refine (HS _).out.mono ?_; rintro e w' ⟨rfl, rfl⟩)
      go_ret
      exact ⟨by rw [HN.out]; rfl, rfl⟩
    · have HN : Hid (nameN s = nameE s 1) := by unfold Hid nameN; rw [hst]; rfl
      rw [← hby, hst] at HS
      rw [hby] at HS
      clear hst hby
      go_enter Tryz.func84, Tryz.ntmps84
      go_wp2_with (go_at_call 120; refine (HS _).out.mono ?_; rintro e w' ⟨rfl, rfl⟩)
      go_loop [5] (fun i => ∃ k : Nat, 1 ≤ k ∧ k ≤ s.size ∧ i = .int .i64 k ∧ nameE s 1 = nameE s k) (fun i => s.size - (intOf i).toNat)
      case atStart => exact ⟨1, Nat.le_refl _, by omega, rfl, rfl⟩
      case round =>
        obtain ⟨k, hk1, hk, rfl, hE⟩ := hrel
        have HE := Lib.hid hE
        clear hE
        by_cases hlt : k < s.size
        · have hbk := byt_in hlt
          have HB := fun W => Lib.hid (nameByte02_any (s[k].toNat : Int) W)
          cases hb : nameI (byt s k)
          · have HX := Lib.hid (nameE_stop hlt hb)
            rw [← hbk, hb] at HB
            rw [hbk] at HB
            clear hb hbk
            go_wp2_with (go_at_call 121; refine (HB _).out.mono ?_; rintro e w' ⟨rfl, rfl⟩)
            go_ret
            exact ⟨by rw [HN.out, HE.out, HX.out]; rfl, rfl⟩
          · have HX := Lib.hid (nameE_next hlt hb)
            rw [← hbk, hb] at HB
            rw [hbk] at HB
            clear hb hbk
            go_wp2_with (go_at_call 121; refine (HB _).out.mono ?_; rintro e w' ⟨rfl, rfl⟩)
            go_round
            case rel => exact ⟨k + 1, by omega, by omega, by go_num, by rw [HE.out, HX.out]⟩
            case measure => simp [intOf]; omega
        · have HX := Lib.hid (nameE_end (s := s) (k := k) (by omega))
          go_wp2
          go_ret
          exact ⟨by rw [HN.out, HE.out, HX.out]; rfl, rfl⟩
  · have hz : s.size = 0 := by omega
    obtain rfl : s = ByteArray.empty := ByteArray.ext (Array.eq_empty_of_size_eq_zero hz)
    have HN : Hid (nameN ByteArray.empty = 0) := rfl
    go_enter Tryz.func84, Tryz.ntmps84
    go_wp2
    go_ret
    exact ⟨by rw [HN.out]; rfl, rfl⟩
set_option maxRecDepth 100000 in
set_option maxHeartbeats 1000000 in
/-- vernacularref19.isName. -/
theorem isName19_any (s : ByteArray) (w : World) (hs : s.size ≤ 1000000000) :
    Calls Tryz.prog 56 #[.string s] w fun e w' => e = .returned (.bool (isNameB s)) ∧ w = w' := by
  have HN := fun W => Lib.hid (name19_any s W hs)
  have HK := Lib.hid (nameN_is s)
  have hle := nameN_le s
  generalize nameN s = n at *
  go_enter Tryz.func56, Tryz.ntmps56
  by_cases h1 : 0 < s.size
  · by_cases h2 : s.size ≤ 64
    · have HE1 : Hid (((n : Int) == (s.size : Int)) = decide (n = s.size)) := by unfold Hid; rw [Bool.eq_iff_iff, beq_iff_eq, decide_eq_true_eq]; omega
      go_wp2_with (go_at_call 84; refine (HN _).out.mono ?_; rintro e w' ⟨rfl, rfl⟩)
      go_ret
      exact ⟨by rw [HK.out, decide_eq_true h1, decide_eq_true h2, ← HE1.out]; rfl, rfl⟩
    · go_wp2
      go_ret
      exact ⟨by rw [HK.out, decide_eq_false h2]; simp, rfl⟩
  · go_wp2
    go_ret
    exact ⟨by rw [HK.out, decide_eq_false h1]; simp, rfl⟩
/-! ### numbers and words -/
set_option maxRecDepth 100000 in
theorem kind15_any (b : UInt8) (w : World) :
    Calls Tryz.prog 123 #[.int .u8 (b.toNat : Int)] w fun e w' => (∃ x : Int, e = .returned (.int .i64 x) ∧ (x == 1) = digB b) ∧ w = w' := by
  go_enter Tryz.func123, Tryz.ntmps123
  go_wp2
  all_goals
    have key : digB b = decide (48 ≤ b.toNat ∧ b.toNat ≤ 57) := by unfold digB; simp
    go_ret
    refine ⟨⟨_, rfl, ?_⟩, rfl⟩
    rw [key]
    simp
    try omega
theorem all_take {s : ByteArray} {k : Nat} (h : k < s.size) : (s.data.toList.take (k + 1)).all digB = ((s.data.toList.take k).all digB && digB s[k]) := by
  rw [take_byte s k h, List.all_append]; simp
set_option maxRecDepth 100000 in
set_option maxHeartbeats 1000000 in
/-- vernacularref15.Number. -/
theorem number15_any (s : ByteArray) (w : World) (hs : s.size ≤ 1000000000) :
    Calls Tryz.prog 86 #[.string s] w fun e w' => (∃ x : Int, e = .returned (.tuple #[.int .i64 x, .bool (numV s).isSome])) ∧ w = w' := by
  have HG := Lib.hid (numV_good s)
  have hl := size_len s
  have HD : Hid (goodD s.data.toList = (decide (1 ≤ s.size) && decide (s.size ≤ 9) && s.data.toList.all digB && (decide (s.size = 1) || decide (s.data.toList.head? ≠ some 48)))) := by unfold Hid goodD; rw [hl]
  clear hl
  by_cases h1 : 1 ≤ s.size
  · by_cases h9 : s.size ≤ 9
    · have hh : (s.data.toList.head? ≠ some 48) ↔ s[0].toNat ≠ 48 := by
        have : s.data.toList = s[0] :: s.data.toList.drop 1 := by
          have := List.drop_eq_getElem_cons (l := s.data.toList) (i := 0) (by rw [size_len]; omega)
          exact this
        rw [this]
        simp only [List.head?_cons, ne_eq, Option.some.injEq]
        rw [← UInt8.toNat_inj]
        exact Iff.rfl
      by_cases hz : 1 < s.size ∧ s[0].toNat = 48
      · have HX : Hid ((numV s).isSome = false) := by
          unfold Hid
          rw [HG.out, HD.out, decide_eq_false (show ¬ s.size = 1 from by omega), decide_eq_false (fun h => hh.1 h hz.2)]
          simp
        obtain ⟨hz1, hz2⟩ := hz
        go_enter Tryz.func86, Tryz.ntmps86
        go_wp2
        go_ret2
        exact ⟨⟨_, by rw [HX.out]; rfl⟩, rfl⟩
      · have HX : Hid ((numV s).isSome = s.data.toList.all digB) := by
          unfold Hid
          have : (decide (s.size = 1) || decide (s.data.toList.head? ≠ some 48)) = true := by
            rw [Bool.or_eq_true, decide_eq_true_eq, decide_eq_true_eq, hh]; omega
          rw [HG.out, HD.out, this, decide_eq_true h1, decide_eq_true h9]
          simp
        clear hh HD HG
        have hz0 : 1 < (s.size : Int) → ¬ ((s[0].toNat : Int) = 48) := fun h1 h2 => hz ⟨by omega, by omega⟩
        have f1 : ¬ (s.size : Int) < 1 := by omega
        have f2 : ¬ 9 < (s.size : Int) := by omega
        have HZ := Lib.hid hz0
        clear hz hz0
        by_cases hg : 1 < s.size
        · have e4 : ((s[0].toNat : Int) == 48) = false := by simpa using HZ.out (by omega)
          go_enter Tryz.func86, Tryz.ntmps86
          go_wp2
          go_loop [4, 5] (fun x i => ∃ k n : Nat, k ≤ s.size ∧ i = .int .i64 k ∧ x = .int .i64 n ∧ n + 1 ≤ 10 ^ k ∧ (s.data.toList.take k).all digB = true) (fun _ i => s.size - (intOf i).toNat)
          case atStart => exact ⟨0, 0, Nat.zero_le _, rfl, rfl, by simp, by simp⟩
          case round =>
            obtain ⟨k, n, hk, rfl, rfl, hn, ha⟩ := hrel
            by_cases hlt : k < s.size
            · have HA := Lib.hid (all_take hlt)
              have hp : 10 ^ k ≤ 10 ^ 8 := Nat.pow_le_pow_right (by omega) (by omega)
              have HP : Hid (10 ^ (k + 1) = 10 * 10 ^ k) := by unfold Hid; rw [Nat.pow_succ, Nat.mul_comm]
              have HT := Lib.hid ha
              clear ha
              cases hd : digB s[k]
              · have HF : Hid (s.data.toList.all digB = false) := by
                  unfold Hid
                  rw [← List.take_append_drop (k + 1) s.data.toList, List.all_append, HA.out, hd]; simp
                go_wp2_with (go_at_call 123; refine (kind15_any s[k] _).mono ?_; rintro e w' ⟨⟨x, rfl, hx⟩, rfl⟩; rw [hd] at hx)
                go_ret2
                exact ⟨⟨_, by rw [HX.out, HF.out]; rfl⟩, rfl⟩
              · have hb := digB_iff.1 hd
                have m1 : IntKind.i64.wrap ((n : Int) * 10) = (n : Int) * 10 := IntWalk.i64_in _ (by omega)
                have m2 : IntKind.u8.wrap ((s[k].toNat : Int) - 48) = (s[k].toNat : Int) - 48 := IntWalk.u8_in _ (by omega)
                have m3 : IntKind.i64.wrap ((s[k].toNat : Int) - 48) = (s[k].toNat : Int) - 48 := IntWalk.i64_in _ (by omega)
                have m4 : IntKind.i64.wrap ((n : Int) * 10 + ((s[k].toNat : Int) - 48)) = (n : Int) * 10 + ((s[k].toNat : Int) - 48) := IntWalk.i64_in _ (by omega)
                go_wp2_with (go_at_call 123; refine (kind15_any s[k] _).mono ?_; rintro e w' ⟨⟨x, rfl, hx⟩, rfl⟩; rw [hd] at hx)
                go_round
                case rel => exact ⟨k + 1, n * 10 + (s[k].toNat - 48), by omega, by go_num, by go_light; simp [*]; omega, by rw [HP.out]; omega, by rw [HA.out, HT.out, hd]; rfl⟩
                case measure => simp [intOf]; omega
            · obtain rfl : k = s.size := by omega
              have HF : Hid (s.data.toList.all digB = true) := by
                unfold Hid; rw [List.take_of_length_le (by rw [size_len]; omega)] at ha; exact ha
              go_wp2
              go_ret2
              exact ⟨⟨_, by rw [HX.out, HF.out]; rfl⟩, rfl⟩
        · go_enter Tryz.func86, Tryz.ntmps86
          go_wp2
          go_loop [4, 5] (fun x i => ∃ k n : Nat, k ≤ s.size ∧ i = .int .i64 k ∧ x = .int .i64 n ∧ n + 1 ≤ 10 ^ k ∧ (s.data.toList.take k).all digB = true) (fun _ i => s.size - (intOf i).toNat)
          case atStart => exact ⟨0, 0, Nat.zero_le _, rfl, rfl, by simp, by simp⟩
          case round =>
            obtain ⟨k, n, hk, rfl, rfl, hn, ha⟩ := hrel
            by_cases hlt : k < s.size
            · have HA := Lib.hid (all_take hlt)
              have hp : 10 ^ k ≤ 10 ^ 8 := Nat.pow_le_pow_right (by omega) (by omega)
              have HP : Hid (10 ^ (k + 1) = 10 * 10 ^ k) := by unfold Hid; rw [Nat.pow_succ, Nat.mul_comm]
              have HT := Lib.hid ha
              clear ha
              cases hd : digB s[k]
              · have HF : Hid (s.data.toList.all digB = false) := by
                  unfold Hid
                  rw [← List.take_append_drop (k + 1) s.data.toList, List.all_append, HA.out, hd]; simp
                go_wp2_with (go_at_call 123; refine (kind15_any s[k] _).mono ?_; rintro e w' ⟨⟨x, rfl, hx⟩, rfl⟩; rw [hd] at hx)
                go_ret2
                exact ⟨⟨_, by rw [HX.out, HF.out]; rfl⟩, rfl⟩
              · have hb := digB_iff.1 hd
                have m1 : IntKind.i64.wrap ((n : Int) * 10) = (n : Int) * 10 := IntWalk.i64_in _ (by omega)
                have m2 : IntKind.u8.wrap ((s[k].toNat : Int) - 48) = (s[k].toNat : Int) - 48 := IntWalk.u8_in _ (by omega)
                have m3 : IntKind.i64.wrap ((s[k].toNat : Int) - 48) = (s[k].toNat : Int) - 48 := IntWalk.i64_in _ (by omega)
                have m4 : IntKind.i64.wrap ((n : Int) * 10 + ((s[k].toNat : Int) - 48)) = (n : Int) * 10 + ((s[k].toNat : Int) - 48) := IntWalk.i64_in _ (by omega)
                go_wp2_with (go_at_call 123; refine (kind15_any s[k] _).mono ?_; rintro e w' ⟨⟨x, rfl, hx⟩, rfl⟩; rw [hd] at hx)
                go_round
                case rel => exact ⟨k + 1, n * 10 + (s[k].toNat - 48), by omega, by go_num, by go_light; simp [*]; omega, by rw [HP.out]; omega, by rw [HA.out, HT.out, hd]; rfl⟩
                case measure => simp [intOf]; omega
            · obtain rfl : k = s.size := by omega
              have HF : Hid (s.data.toList.all digB = true) := by
                unfold Hid; rw [List.take_of_length_le (by rw [size_len]; omega)] at ha; exact ha
              go_wp2
              go_ret2
              exact ⟨⟨_, by rw [HX.out, HF.out]; rfl⟩, rfl⟩
    · have HX : Hid ((numV s).isSome = false) := by
        unfold Hid
        rw [HG.out, HD.out, decide_eq_false h9]; simp
      go_enter Tryz.func86, Tryz.ntmps86
      go_wp2
      go_ret2
      exact ⟨⟨_, by rw [HX.out]; rfl⟩, rfl⟩
  · have HX : Hid ((numV s).isSome = false) := by
      unfold Hid
      rw [HG.out, HD.out, decide_eq_false h1]; simp
    go_enter Tryz.func86, Tryz.ntmps86
    go_wp2
    go_ret2
    exact ⟨⟨_, by rw [HX.out]; rfl⟩, rfl⟩
theorem cats_at {k : Nat} (h : k < 6) : catsW[k]? = some (catsW[k]'(by exact h)) := List.getElem?_eq_getElem _
set_option maxRecDepth 100000 in
/-- vernacularref15.Name. -/
theorem name15_any (k : Nat) (t : ByteArray) (h : catsW[k]? = some t) (w : World) :
    Calls Tryz.prog 124 #[.int .i64 (k : Int)] w fun e w' => e = .returned (.string t) ∧ w = w' := by
  match k, h with
  | 0, h | 1, h | 2, h | 3, h | 4, h | 5, h =>
    simp only [catsW, List.getElem?_cons_zero, List.getElem?_cons_succ, Option.some.injEq] at h
    subst h
    go_enter Tryz.func124, Tryz.ntmps124
    go_wp2
    go_ret
    exact ⟨rfl, rfl⟩
  | k + 6, h => simp [catsW] at h
set_option maxRecDepth 100000 in
set_option maxHeartbeats 1000000 in
/-- vernacularref15.Place. -/
theorem place15_any (s : ByteArray) (w : World) :
    Calls Tryz.prog 87 #[.string s] w fun e w' => (∃ x : Int, e = .returned (.int .i64 x) ∧ decide (0 ≤ x) = memW catsW s) ∧ w = w' := by
  go_enter Tryz.func87, Tryz.ntmps87
  go_wp2
  go_loop [3] (fun i => ∃ k : Nat, k ≤ 6 ∧ i = .int .i64 k ∧ ∀ t ∈ catsW.take k, t ≠ s) (fun i => 6 - (intOf i).toNat)
  case atStart => exact ⟨0, Nat.zero_le _, rfl, by simp⟩
  case round =>
    obtain ⟨k, hk, rfl, hf⟩ := hrel
    have HF := Lib.hid hf
    clear hf
    by_cases hlt : k < 6
    · obtain ⟨t, ht⟩ : ∃ t, catsW[k]? = some t := ⟨_, cats_at hlt⟩
      have HT := Lib.hid ht
      have HB := Lib.hid (bytes_beq t s)
      by_cases he : t = s
      · have HM : Hid (decide (0 ≤ (k : Int)) = memW catsW s) := by
          unfold Hid
          rw [decide_eq_true (by omega), eq_comm, memW_iff]
          exact he ▸ List.mem_of_getElem? ht
        have hb : (t.toList == s.toList) = true := by rw [HB.out]; exact decide_eq_true he
        clear he ht
        go_wp2_with (go_at_call 124; refine (name15_any k t HT.out _).mono ?_; rintro e w' ⟨rfl, rfl⟩)
        go_ret
        exact ⟨⟨_, rfl, HM.out⟩, rfl⟩
      · have HN := Lib.hid he
        have hb : (t.toList == s.toList) = false := by rw [HB.out]; exact decide_eq_false he
        clear he ht
        go_wp2_with (go_at_call 124; refine (name15_any k t HT.out _).mono ?_; rintro e w' ⟨rfl, rfl⟩)
        go_round
        case rel => exact ⟨k + 1, by omega, by go_num, fun x hx => by
          rw [List.take_add_one, HT.out, List.mem_append] at hx
          rcases hx with h1 | h1
          · exact HF.out x h1
          · have : x = t := by simpa using h1
            rw [this]; exact HN.out⟩
        case measure => simp [intOf]; omega
    · have HM : Hid (decide (0 ≤ (-1 : Int)) = memW catsW s) := by
        unfold Hid
        have h0 : memW catsW s = false := by
          rw [← Bool.not_eq_true, memW_iff]
          intro hm
          rw [show k = 6 from by omega] at HF
          exact HF.out s (by rw [List.take_of_length_le (by decide)]; exact hm) rfl
        rw [h0]; rfl
      go_wp2
      go_ret
      exact ⟨⟨_, rfl, HM.out⟩, rfl⟩
theorem of_toList {s : ByteArray} {l : List UInt8} (h : s.toList = l) : s = ⟨l.toArray⟩ := by
  rw [ByteArray.toList_eq] at h
  exact ByteArray.ext (Array.toList_inj.1 h)
set_option maxRecDepth 100000 in
set_option maxHeartbeats 1000000 in
/-- vernacularref19.Type. -/
theorem type19_any (s : ByteArray) (w : World) :
    Calls Tryz.prog 57 #[.string s] w fun e w' => e = .returned (.bool (memW typesW s)) ∧ w = w' := by
  by_cases hm : s ∈ typesW
  · have HM : Hid (memW typesW s = true) := (memW_iff _ _).2 hm
    rw [HM.out]
    clear HM
    simp only [typesW, List.mem_cons, List.not_mem_nil, or_false] at hm
    rcases hm with rfl | rfl | rfl | rfl | rfl | rfl | rfl <;>
      (go_enter Tryz.func57, Tryz.ntmps57
       go_wp2
       go_ret
       exact ⟨rfl, rfl⟩)
  · have HM : Hid (memW typesW s = false) := by unfold Hid; rw [← Bool.not_eq_true, memW_iff]; exact hm
    rw [HM.out]
    simp only [typesW, List.mem_cons, List.not_mem_nil, or_false, not_or] at hm
    obtain ⟨h1, h2, h3, h4, h5, h6, h7⟩ := hm
    have b1 : ¬ s.toList = [110, 117, 109, 98, 101, 114] := fun h => h1 (of_toList h)
    have b2 : ¬ s.toList = [100, 97, 116, 101] := fun h => h2 (of_toList h)
    have b3 : ¬ s.toList = [116, 105, 109, 101] := fun h => h3 (of_toList h)
    have b4 : ¬ s.toList = [108, 105, 115, 116] := fun h => h4 (of_toList h)
    have b5 : ¬ s.toList = [117, 110, 105, 116] := fun h => h5 (of_toList h)
    have b6 : ¬ s.toList = [114, 101, 108, 97, 116, 105, 118, 101] := fun h => h6 (of_toList h)
    have b7 : ¬ s.toList = [112, 108, 97, 110, 101] := fun h => h7 (of_toList h)
    clear h1 h2 h3 h4 h5 h6 h7
    go_enter Tryz.func57, Tryz.ntmps57
    go_wp2
    go_ret
    exact ⟨by simp [b1, b2, b3, b4, b5, b6, b7], rfl⟩
set_option maxRecDepth 100000 in
/-- vernacularref19.word. -/
theorem word19_any (k : Int) (w : World) :
    Calls Tryz.prog 28 #[.int .i64 k] w fun e w' => e = .returned (.string (wordB k)) ∧ w = w' := by
  by_cases h4 : k = 4
  · subst h4
    go_enter Tryz.func28, Tryz.ntmps28
    go_wp2
    go_ret
    exact ⟨rfl, rfl⟩
  · by_cases h5 : k = 5
    · subst h5
      go_enter Tryz.func28, Tryz.ntmps28
      go_wp2
      go_ret
      exact ⟨rfl, rfl⟩
    · have HW : Hid (wordB k = ordinalW) := by unfold Hid wordB; rw [if_neg h4, if_neg h5]
      go_enter Tryz.func28, Tryz.ntmps28
      go_wp2
      go_ret
      exact ⟨by rw [HW.out]; rfl, rfl⟩
end Go.Proofs.YtjldgcpmdcoejaaGreatDoor
