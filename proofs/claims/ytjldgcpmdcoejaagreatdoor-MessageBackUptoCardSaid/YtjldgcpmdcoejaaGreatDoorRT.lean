/- Walks: vernacularref02.At, vernacularref17.Right: where a text is broken. -/
import Derived.Test.YtjldgcpmdcoejaaGreatDoorWCheck
namespace Go.Proofs.YtjldgcpmdcoejaaGreatDoor
open Go.RowKit

set_option maxRecDepth 100000 in
set_option maxHeartbeats 400000 in
theorem at02_any (s : ByteArray) (k : Nat) (w : World) (hs : s.size ≤ 9223372036854775800) (h : k < s.size) :
    Calls Tryz.prog 32 #[.string s, .int .i64 k] w fun e w' => e = .returned (.tuple #[.int .i32 (formD s k).1, .int .i64 (formD s k).2]) ∧ w = w' := by
  have H := Lib.hid (form_in s k w hs h)
  go_enter Tryz.func32, Tryz.ntmps32
  go_wp2_with (go_at_call 65; refine H.out.mono ?_; rintro e w' ⟨rfl, rfl⟩)
  go_ret2
  exact ⟨rfl, rfl⟩
set_option maxRecDepth 100000 in
set_option maxHeartbeats 400000 in
/-- vernacularref17.Right. -/
theorem right17_any (s : ByteArray) (w : World) (hs : s.size ≤ 9223372036854775800) :
    Calls Tryz.prog 16 #[.string s] w fun e w' => e = .returned (.int .i64 (brk s)) ∧ w = w' := by
  go_enter Tryz.func16, Tryz.ntmps16
  go_wp2
  go_loop [3] (fun i => ∃ k : Nat, k ≤ s.size ∧ i = .int .i64 k ∧ brkAt s k = brk s) (fun i => s.size - (intOf i).toNat)
  case atStart => exact ⟨0, Nat.zero_le _, rfl, rfl⟩
  case round =>
    obtain ⟨k, hk, rfl, hb⟩ := hrel
    have HB := Lib.hid hb
    clear hb
    by_cases hlt : k < s.size
    · have hw := formD_wide s k hlt
      have hr := formD_rune s k
      by_cases hn : (formD s k).1 < 0
      · have HE := Lib.hid (brkAt_bad s k hlt hn)
        go_wp2_with (go_at_call 32; refine (at02_any s k _ hs hlt).mono ?_; rintro e w' ⟨rfl, rfl⟩)
        go_ret
        exact ⟨by rw [← HB.out, HE.out]; rfl, rfl⟩
      · have HE := Lib.hid (brkAt_next s k hlt hn)
        go_wp2_with (go_at_call 32; refine (at02_any s k _ hs hlt).mono ?_; rintro e w' ⟨rfl, rfl⟩)
        go_round
        case rel => exact ⟨k + (formD s k).2, by omega, by go_num, by rw [← HE.out, HB.out]⟩
        case measure => simp [intOf]; omega
    · have HE := Lib.hid (brkAt_end s k (by omega))
      go_wp2
      go_ret
      exact ⟨by rw [← HB.out, HE.out]; rfl, rfl⟩
end Go.Proofs.YtjldgcpmdcoejaaGreatDoor
