/- Walks: utf's kinds of bytes. -/
import Derived.Test.YtmfoiceofhcicaaGreatDoorMR
import Derived.Test.YtmfoiceofhcicaaGreatDoorShelf
import Derived.Deep.QuietTactic
import Derived.BigQuiet
import Derived.Deep.RegionWith
import Derived.Deep.Light
namespace Go.Proofs.YtmfoiceofhcicaaGreatDoor
open Go.RowKit

def ltrI (x : Int) : Bool := decide (97 ≤ x ∧ x ≤ 122) || decide (65 ≤ x ∧ x ≤ 90)
theorem byte_cases {Q : Int → Prop} (h : ∀ n, n < 256 → Q ((n : Nat) : Int)) (x : Int) (h0 : 0 ≤ x) (h1 : x < 256) : Q x := by
  have := h x.toNat (by omega)
  rwa [Int.toNat_of_nonneg h0] at this
theorem ltr_or (x : Int) (h0 : 0 ≤ x) (h1 : x < 256) : ltrI x = (decide (97 ≤ bits BinOp.or IntKind.u8 x 32) && decide (bits BinOp.or IntKind.u8 x 32 ≤ 122)) :=
  byte_cases (Q := fun x => ltrI x = (decide (97 ≤ bits BinOp.or IntKind.u8 x 32) && decide (bits BinOp.or IntKind.u8 x 32 ≤ 122))) (by decide +kernel) x h0 h1

set_option maxRecDepth 100000 in
set_option maxHeartbeats 400000 in
theorem letter_any (x : Int) (h0 : 0 ≤ x) (h1 : x < 256) (w : World) :
    Calls Tryz.prog 175 #[.int .u8 x] w fun e w' => e = .returned (.bool (ltrI x)) ∧ w = w' := by
  have key := ltr_or x h0 h1
  generalize hb : bits BinOp.or IntKind.u8 x 32 = y at key
  have HB := Lib.hid hb
  clear hb
  go_enter Tryz.func175, Tryz.ntmps175
  go_wp2
  all_goals
    rename_i hc
    rw [HB.out] at hc ⊢
    clear HB
    go_ret
    refine ⟨?_, rfl⟩
    try rw [key]
    first
      | (rw [show decide (97 ≤ y) = true from decide_eq_true hc]; rfl)
      | (rw [show decide (97 ≤ y) = false from decide_eq_false (by omega)]; rfl)
set_option maxRecDepth 100000 in
set_option maxHeartbeats 400000 in
theorem digit_any (x : Int) (h0 : 0 ≤ x) (h1 : x < 256) (w : World) :
    Calls Tryz.prog 174 #[.int .u8 x] w fun e w' => e = .returned (.bool (digI x)) ∧ w = w' := by
  go_enter Tryz.func174, Tryz.ntmps174
  go_wp2
  all_goals
    have key : digI x = decide (48 ≤ x ∧ x ≤ 57) := by unfold digI; simp
    go_ret
    exact ⟨by rw [key]; simp [*] <;> omega, rfl⟩
set_option maxRecDepth 100000 in
set_option maxHeartbeats 400000 in
theorem nameStart_any (x : Int) (h0 : 0 ≤ x) (h1 : x < 256) (w : World) :
    Calls Tryz.prog 148 #[.int .u8 x] w fun e w' => e = .returned (.bool (startI x)) ∧ w = w' := by
  go_enter Tryz.func148, Tryz.ntmps148
  go_wp2_with (go_at_call 175; refine (letter_any x h0 h1 _).mono ?_; rintro e w' ⟨rfl, rfl⟩)
  all_goals
    have key : startI x = (ltrI x || x == 95) := rfl
    go_ret
    exact ⟨by simp_all, rfl⟩
set_option maxRecDepth 100000 in
set_option maxHeartbeats 400000 in
theorem nameByte_any (x : Int) (h0 : 0 ≤ x) (h1 : x < 256) (w : World) :
    Calls Tryz.prog 147 #[.int .u8 x] w fun e w' => e = .returned (.bool (nameI x)) ∧ w = w' := by
  go_enter Tryz.func147, Tryz.ntmps147
  go_wp2_with (first | (go_at_call 148; refine (nameStart_any x h0 h1 _).mono ?_; rintro e w' ⟨rfl, rfl⟩) | (go_at_call 174; refine (digit_any x h0 h1 _).mono ?_; rintro e w' ⟨rfl, rfl⟩))
  all_goals first | (exfalso; simp_all; done) | skip
  all_goals
    have key : nameI x = (startI x || digI x || x == 45 || x == 46) := rfl
    go_ret
    exact ⟨by simp_all, rfl⟩
theorem empty_iff {s : ByteArray} : s.toList.isEmpty = true ↔ s.size = 0 := by
  rw [ByteArray.toList_eq]
  have : s.size = s.data.toList.length := by rw [Array.length_toList]; rfl
  rw [this, List.isEmpty_iff, List.length_eq_zero_iff]
theorem not_empty {s : ByteArray} (h : s.size ≠ 0) : s.toList.isEmpty = false := by
  cases hb : s.toList.isEmpty
  · rfl
  · exact absurd (empty_iff.1 hb) h
/-- utf.all, at a kind of bytes that a function tells. -/
def allB (c : Int → Bool) (s : ByteArray) : Bool := decide (s.size ≠ 0 ∧ ∀ j, j < s.size → c (byt s j) = true)
set_option maxRecDepth 100000 in
set_option maxHeartbeats 400000 in
theorem all_any (K : FuncId) (c : Int → Bool) (hK : ∀ args w, (callFunc K args).run Tryz.prog w = .ok (.enter K args) w) (hc : ∀ x w, 0 ≤ x → x < 256 → Calls Tryz.prog K #[.int .u8 x] w fun e w' => e = .returned (.bool (c x)) ∧ w = w')
    (s : ByteArray) (hs : s.size ≤ 9223372036854775000) (w : World) :
    Calls Tryz.prog 146 #[.string s, .func (.func K) #[] #[]] w fun e w' => e = .returned (.bool (allB c s)) ∧ w = w' := by
  go_enter Tryz.func146, Tryz.ntmps146
  go_wp2
  go_loop [8] (fun i => ∃ k : Nat, k ≤ s.size ∧ i = .int .i64 k ∧ ∀ j, j < k → c (byt s j) = true) (fun i => s.size - (intOf i).toNat)
  case atStart => exact ⟨0, Nat.zero_le _, rfl, fun j hj => absurd hj (by omega)⟩
  case round =>
    obtain ⟨k, hk, rfl, hb⟩ := hrel
    have HB := Lib.hid hb
    clear hb
    by_cases hlt : k < s.size
    · have hby := byt_in hlt
      by_cases hck : c (s[k].toNat) = true
      · have HC : Hid (c (byt s k) = true) := by unfold Hid; rw [hby]; exact hck
        clear hby
        go_wp2_with (go_at_fn K; refine (hc _ _ (by omega) (by have := s[k].toNat_lt; omega)).mono ?_; rintro e w' ⟨rfl, rfl⟩)
        go_round
        case rel => exact ⟨k + 1, by omega, by go_num, fun j hj => by
          rcases Nat.lt_or_ge j k with h | h
          · exact HB.out j h
          · have : j = k := by omega
            subst this; exact HC.out⟩
        case measure => simp [intOf]; omega
      · have HC : Hid (allB c s = false) := by
          unfold Hid allB
          simp only [decide_eq_false_iff_not]
          intro h
          exact hck (by rw [← hby]; exact h.2 k hlt)
        clear hby
        go_wp2_with (go_at_fn K; refine (hc _ _ (by omega) (by have := s[k].toNat_lt; omega)).mono ?_; rintro e w' ⟨rfl, rfl⟩)
        go_ret
        exact ⟨by rw [HC.out]; rfl, rfl⟩
    · have HC : Hid (allB c s = !s.toList.isEmpty) := by
        unfold Hid allB
        by_cases h0 : s.size = 0
        · rw [empty_iff.2 h0]; simp [h0]
        · rw [not_empty h0]
          simp only [Bool.not_false, decide_eq_true_eq]
          exact ⟨h0, fun j hj => HB.out j (by omega)⟩
      go_wp2
      go_ret
      exact ⟨by rw [HC.out]; rfl, rfl⟩

set_option maxRecDepth 100000 in
set_option maxHeartbeats 400000 in
theorem isname_any (s : ByteArray) (hs : s.size ≤ 9223372036854775000) (w : World) :
    Calls Tryz.prog 127 #[.string s] w fun e w' => e = .returned (.bool (allB nameI s && startI (byt s 0))) ∧ w = w' := by
  have hf : ∀ args w, (callFunc 147 args).run Tryz.prog w = .ok (.enter 147 args) w := enters_of Tryz.func147 (by kernel_rfl) rfl
  have H := Lib.hid (all_any 147 nameI hf (fun x w h0 h1 => nameByte_any x h0 h1 w) s hs w)
  clear hf
  by_cases h : allB nameI s = true
  · have h0 : 0 < s.size := by
      unfold allB at h
      simp only [decide_eq_true_eq] at h
      omega
    have hb := Lib.hid (byt_in h0)
    have hH := Lib.hid h
    have H2 : Hid (Calls Tryz.prog 146 #[.string s, .func (.func 147) #[] #[]] w fun e w' => e = .returned (.bool true) ∧ w = w') := by unfold Hid; rw [← h]; exact H.out
    clear h H
    go_enter Tryz.func127, Tryz.ntmps127
    go_wp2_with (first | (go_at_call 146; refine H2.out.mono ?_; rintro e w' ⟨rfl, rfl⟩) | (go_at_call 148; refine (nameStart_any _ (by omega) (by have := s[0].toNat_lt; omega) _).mono ?_; rintro e w' ⟨rfl, rfl⟩))
    go_ret
    exact ⟨by rw [hH.out, hb.out]; rfl, rfl⟩
  · have hH := Lib.hid (Bool.not_eq_true _ ▸ h : allB nameI s = false)
    have H2 : Hid (Calls Tryz.prog 146 #[.string s, .func (.func 147) #[] #[]] w fun e w' => e = .returned (.bool false) ∧ w = w') := by unfold Hid; rw [← hH.out]; exact H.out
    clear h H
    go_enter Tryz.func127, Tryz.ntmps127
    go_wp2_with (first | (go_at_call 146; refine H2.out.mono ?_; rintro e w' ⟨rfl, rfl⟩))
    go_ret
    exact ⟨by rw [hH.out]; rfl, rfl⟩
end Go.Proofs.YtmfoiceofhcicaaGreatDoor
