/- The law MessagePlain, walked: true for every text. -/
import Derived.Test.YtjldgcpmdcoejaaGreatDoorQW
import Derived.Test.YtjldgcpmdcoejaaGreatDoorQD
import Derived.Test.YtjldgcpmdcoejaaGreatDoorRT
namespace Go.Proofs.YtjldgcpmdcoejaaGreatDoor
open Go.RowKit

set_option maxRecDepth 100000 in
set_option maxHeartbeats 1000000 in
theorem law_plain {B : Nat} (w : World) (s : ByteArray) (hE : EnvM B w) (hs : s.size ≤ 9223372036854775000) :
    Calls Tryz.prog 4 #[.string s] w fun e w' => e = .returned (.bool true) ∧ Keep [] w w' := by
  have HE := Lib.hid hE
  have HW := Lib.hid (wakes_any w hE)
  have HM := fun W (hW : EnvM B W) => Lib.hid (mplain_any s W hW hs)
  have HR := fun W => Lib.hid (right17_any s W (by omega))
  by_cases h1 : 4096 < s.size
  · have e1 : (4096 : Int) < s.size := by omega
    have hp : plainT s = ⟨#[]⟩ := by unfold plainT; rw [if_pos (.inl h1)]
    rw [hp] at HM
    clear hE h1 hp
    go_enter Tryz.func4, Tryz.ntmps4
    go_wp2_with (first
      | (go_at_call 9; refine HW.out.mono ?_; rintro e w1 ⟨rfl, hk1⟩; have HK1 := Lib.hid hk1; clear hk1)
      | (go_at_call 15; refine (HM _ (HE.out.keep HK1.out (by simp))).out.mono ?_; rintro e w2 ⟨rfl, hk2⟩; have HK2 := Lib.hid (HK1.out.nil hk2); clear hk2))
    go_ret
    exact ⟨rfl, HK2.out⟩
  · have e1 : ¬ (4096 : Int) < s.size := by omega
    by_cases h2 : brk s < 0
    · have hp : plainT s = ⟨(dressL false s.data.toList).toArray⟩ := by unfold plainT; rw [if_neg (fun h => h.elim (fun h => h1 h) (fun h => h h2))]
      have HD := fun W => Lib.hid (dress19_any s false W (by omega))
      rw [hp] at HM
      clear hE h1 hp
      generalize (⟨(dressL false s.data.toList).toArray⟩ : ByteArray) = t at *
      generalize brk s = bk at *
      go_enter Tryz.func4, Tryz.ntmps4
      go_wp2_with (first
        | (go_at_call 9; refine HW.out.mono ?_; rintro e w1 ⟨rfl, hk1⟩; have HK1 := Lib.hid hk1; clear hk1)
        | (go_at_call 15; refine (HM _ (HE.out.keep HK1.out (by simp))).out.mono ?_; rintro e w2 ⟨rfl, hk2⟩; have HK2 := Lib.hid (HK1.out.nil hk2); clear hk2)
        | (go_at_call 16; refine (HR _).out.mono ?_; rintro e w3 ⟨rfl, rfl⟩)
        | (go_at_call 17; refine (HD _).out.mono ?_; rintro e w4 ⟨rfl, hk4⟩; have HK4 := Lib.hid (HK2.out.nil hk4); clear hk4))
      go_ret
      exact ⟨by simp, HK4.out⟩
    · have hp : plainT s = ⟨#[]⟩ := by unfold plainT; rw [if_pos (.inr h2)]
      have h3 : 0 ≤ brk s := by omega
      rw [hp] at HM
      clear hE h1 hp h2
      generalize brk s = bk at *
      go_enter Tryz.func4, Tryz.ntmps4
      go_wp2_with (first
        | (go_at_call 9; refine HW.out.mono ?_; rintro e w1 ⟨rfl, hk1⟩; have HK1 := Lib.hid hk1; clear hk1)
        | (go_at_call 15; refine (HM _ (HE.out.keep HK1.out (by simp))).out.mono ?_; rintro e w2 ⟨rfl, hk2⟩; have HK2 := Lib.hid (HK1.out.nil hk2); clear hk2)
        | (go_at_call 16; refine (HR _).out.mono ?_; rintro e w3 ⟨rfl, rfl⟩))
      go_ret
      exact ⟨rfl, HK2.out⟩
end Go.Proofs.YtjldgcpmdcoejaaGreatDoor
