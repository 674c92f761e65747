/- The law MessageTexts, walked: true for every text. -/
import Derived.Test.YtjldgcpmdcoejaaGreatDoorQW
import Derived.Test.YtjldgcpmdcoejaaGreatDoorTN
import Derived.Test.YtjldgcpmdcoejaaGreatDoorTP
import Derived.Test.YtjldgcpmdcoejaaGreatDoorTV
namespace Go.Proofs.YtjldgcpmdcoejaaGreatDoor
open Go.RowKit

theorem dressL_nil (h : Bool) : dressL h [] = [] := rfl
set_option maxRecDepth 100000 in
set_option maxHeartbeats 2000000 in
theorem law_texts {B : Nat} (w : World) (s : ByteArray) (hE : EnvM B w) (hs : s.size ≤ 9223372036854775000) :
    Calls Tryz.prog 7 #[.string s] w fun e w' => e = .returned (.bool true) ∧ Keep [] w w' := by
  have HE := Lib.hid hE
  have HW := Lib.hid (wakes_any w hE)
  obtain ⟨t, ht⟩ : ∃ t, plainT s = t := ⟨_, rfl⟩
  have HM : ∀ W, EnvM B W → Hid (Calls Tryz.prog 15 #[.string s] W fun e w' => e = .returned (.string t) ∧ Keep [] W w') := fun W hW => by rw [← ht]; exact mplain_any s W hW hs
  have he := emp'' t
  unfold noB at he
  by_cases h0 : t.size = 0
  · rw [decide_eq_true h0] at he
    clear ht hE h0
    go_enter Tryz.func7, Tryz.ntmps7
    go_wp2_with (first
      | (go_at_call 9; refine HW.out.mono ?_; rintro e w1 ⟨rfl, hk1⟩; have HK1 := Lib.hid hk1; clear hk1)
      | (go_at_call 15; refine (HM _ (HE.out.keep HK1.out (by simp))).out.mono ?_; rintro e w2 ⟨rfl, hk2⟩; have HK2 := Lib.hid (HK1.out.nil hk2); clear hk2))
    go_ret
    exact ⟨rfl, HK2.out⟩
  · rw [decide_eq_false h0] at he
    by_cases h1 : 4096 < t.size
    · have e1 : (4096 : Int) < t.size := by omega
      clear ht hE h0 h1
      go_enter Tryz.func7, Tryz.ntmps7
      go_wp2_with (first
        | (go_at_call 9; refine HW.out.mono ?_; rintro e w1 ⟨rfl, hk1⟩; have HK1 := Lib.hid hk1; clear hk1)
        | (go_at_call 15; refine (HM _ (HE.out.keep HK1.out (by simp))).out.mono ?_; rintro e w2 ⟨rfl, hk2⟩; have HK2 := Lib.hid (HK1.out.nil hk2); clear hk2))
      go_ret
      exact ⟨rfl, HK2.out⟩
    · have e1 : ¬ (4096 : Int) < t.size := by omega
      have hc : ¬ (4096 < s.size ∨ ¬ brk s < 0) := fun hc => by
        unfold plainT at ht
        rw [if_pos hc] at ht
        exact h0 (by rw [← ht]; rfl)
      have hd : t.data.toList = dressL false s.data.toList := by
        rw [← ht]; unfold plainT; rw [if_neg hc]
      have hb : brk s < 0 := Classical.not_not.1 fun h => hc (.inr h)
      have hne : s.data.toList ≠ [] := fun h => by
        rw [h, dressL_nil] at hd
        exact h0 (by rw [← size_len, hd]; rfl)
      have hbt := brk_dress false s t hd hb
      have hm := read_dress s t hne hd
      have HP : ∀ W, EnvM B W → Hid (Calls Tryz.prog 18 #[.string t] W fun e w' => ∃ u S, e = .returned (.tuple #[u, .agg #[.int .i64 0, .int .i64 0]]) ∧ Lies (t.size + 1 + 1) S w' u [textP s] ∧ (∀ b, S b → W.heap.size ≤ b ∧ b < w'.heap.size) ∧ Keep [] W w') := fun W hW => parse_ok t W hW (by omega) (by rw [hbt]; decide) [textP s] 1 hm
      generalize t.size + 1 = m at HP
      clear ht hE hc hd hb hne hbt hm h0 h1
      go_enter Tryz.func7, Tryz.ntmps7
      go_wp2_with (first
        | (go_at_call 9; refine HW.out.mono ?_; rintro e w1 ⟨rfl, hk1⟩; have HK1 := Lib.hid hk1; clear hk1)
        | (go_at_call 15; refine (HM _ (HE.out.keep HK1.out (by simp))).out.mono ?_; rintro e w2 ⟨rfl, hk2⟩; have HK2 := Lib.hid (HK1.out.nil hk2); clear hk2))
      refine (HP _ (HE.out.keep HK2.out (by simp))).out.mono ?_
      rintro e w3 ⟨u, S, rfl, hL, hS, hk3⟩
      obtain ⟨A, cap, rfl, _, hat⟩ := lies_open hL
      obtain ⟨b, o, cv, rfl, hbb, hP, hC⟩ := hat 0 (textP s) rfl
      have hP' : PAt w3 b o (textP s) cv := by simpa using hP
      obtain ⟨Ac, cc, rfl⟩ := hC.formL
      rw [List.length_singleton]
      have hkA : Keep [] w3 (w3.alloc (.cells #[.int .i64 0, .int .i64 0] 36)) := (Keep.refl [] w3).alloc _
      have hb2 : b < (w3.alloc (.cells #[.int .i64 0, .int .i64 0] 36)).heap.size := by simp; omega
      obtain ⟨a0, a1, a2, a3, a4, a5, a6⟩ := hP'.keep hkA hbb
      have HN := Lib.hid (names_text s Ac cap _ cc _ b o hb2 a0 a1 a2 a3 a4 a5 a6)
      have HK3 := Lib.hid ((HK2.out.nil hk3).nil hkA)
      clear hat hP hP' hL hS hk3 hkA hC
      simp only [textP] at a0 a1 a2 a3 a4 a5 a6 HN
      go_wp2_with (go_at_call 20; refine HN.out.mono ?_; rintro e w5 ⟨rfl, hk5⟩; have HK5 := Lib.hid (HK3.out.nil hk5); clear hk5)
      go_ret
      exact ⟨rfl, HK5.out⟩
end Go.Proofs.YtjldgcpmdcoejaaGreatDoor
