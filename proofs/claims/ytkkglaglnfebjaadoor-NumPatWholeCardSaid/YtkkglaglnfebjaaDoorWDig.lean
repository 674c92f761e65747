/- Walks: utf.Digits. -/
import Derived.Test.YtkkglaglnfebjaaDoorWRd
import Derived.Deep.LoopGhost
import Derived.Deep.Light
namespace Go.Proofs.YtkkglaglnfebjaaDoor
open Go.RowKit

def digB (c : Int) : Bool := decide (48 ≤ c ∧ c ≤ 57)
/-- Are there digits, and nothing else? -/
def digsB (s : ByteArray) : Bool := s.data.toList.all (fun c => digB c.toNat) && !s.toList.isEmpty
theorem digit_any (c : Int) (w : World) : Calls Tryd.prog 99 #[.int .u8 c] w fun e w' => e = .returned (.bool (digB c)) ∧ w = w' := by
  go_enter Tryd.func99, Tryd.ntmps99
  go_wp2
  all_goals
    go_ret
    exact ⟨congrArg Ending.returned (congrArg Value.bool (show _ = digB c by go_light; grind [digB])), rfl⟩

theorem all_upto (s : ByteArray) (k : Nat) (hk : k < s.size) (hb : digB s[k].toNat = false) : digsB s = false := by
  have h1 : s.data.toList.all (fun c => digB c.toNat) = false := by
    rw [List.all_eq_false]
    exact ⟨s[k], by simp [ByteArray.getElem_eq_getElem_data], by rw [hb]; simp⟩
  simp [digsB, h1]
theorem all_end (s : ByteArray) (h : ∀ j, j < s.size → digB (s.get! j).toNat = true) : digsB s = !s.toList.isEmpty := by
  have h1 : s.data.toList.all (fun c => digB c.toNat) = true := by
    rw [List.all_eq_true]
    intro x hx
    obtain ⟨j, hj, rfl⟩ := List.mem_iff_getElem.1 hx
    have hj2 : j < s.size := by simpa using hj
    have := h j hj2
    rw [get!_eq s j hj2] at this
    simpa [ByteArray.getElem_eq_getElem_data] using this
  simp [digsB, h1]

set_option maxRecDepth 100000 in
set_option maxHeartbeats 400000 in
theorem all_any (s : ByteArray) (w : World) (hs : s.size ≤ 9223372036854775800) :
    Calls Tryd.prog 98 #[.string s, .func (.func 99) #[] #[]] w fun e w' => e = .returned (.bool (digsB s)) ∧ w = w' := by
  go_enter Tryd.func98, Tryd.ntmps98
  go_wp2
  go_loop [8] (fun i => ∃ k : Nat, k ≤ s.size ∧ i = .int .i64 k ∧ ∀ j, j < k → digB (s.get! j).toNat = true) (fun i => s.size - (intOf i).toNat)
  case atStart => exact ⟨0, Nat.zero_le _, rfl, fun j h => absurd h (by omega)⟩
  case round =>
    obtain ⟨k, hk, rfl, hall⟩ := hrel
    have HA := Lib.hid hall
    clear hall
    by_cases hlt : k < s.size
    · cases hd : digB s[k].toNat
      · have HE := Lib.hid (all_upto s k hlt hd)
        go_wp2_with (go_at_call 99; refine (digit_any _ _).mono ?_; rintro e w' ⟨rfl, rfl⟩)
        go_ret
        exact ⟨by rw [HE.out]; rfl, rfl⟩
      · have HE : Hid (∀ j, j < k + 1 → digB (s.get! j).toNat = true) := fun j hj => by
          by_cases h : j < k
          · exact HA.out j h
          · have : j = k := by omega
            subst this
            rw [get!_eq s j hlt]; exact hd
        go_wp2_with (go_at_call 99; refine (digit_any _ _).mono ?_; rintro e w' ⟨rfl, rfl⟩)
        go_round
        case rel => exact ⟨k + 1, by omega, by go_num, HE.out⟩
        case measure => simp [intOf]; omega
    · have hk2 : k = s.size := by omega
      subst hk2
      have HE := Lib.hid (all_end s HA.out)
      go_wp2
      go_ret
      exact ⟨by rw [HE.out]; rfl, rfl⟩
set_option maxRecDepth 100000 in
set_option maxHeartbeats 400000 in
theorem digits_all (s : ByteArray) (w : World) (hs : s.size ≤ 9223372036854775800) :
    Calls Tryd.prog 58 #[.string s] w fun e w' => e = .returned (.bool (digsB s)) ∧ w = w' := by
  go_enter Tryd.func58, Tryd.ntmps58
  go_wp2_with (go_at_call 98; refine (all_any _ _ hs).mono ?_; rintro e w' ⟨rfl, rfl⟩)
  go_ret
  exact ⟨rfl, rfl⟩
end Go.Proofs.YtkkglaglnfebjaaDoor
