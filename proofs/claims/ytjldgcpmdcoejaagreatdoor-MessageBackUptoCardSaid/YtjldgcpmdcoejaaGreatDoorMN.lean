/- Walks: name, of the reader of messages. -/
import Derived.Test.YtjldgcpmdcoejaaGreatDoorMQ
namespace Go.Proofs.YtjldgcpmdcoejaaGreatDoor
open Go.RowKit

set_option maxRecDepth 100000 in
set_option maxHeartbeats 2000000 in
/-- name. -/
theorem name_any (w : World) (g : Nat) (s : ByteArray) (p n d : Nat) (v : Value) (h : Rr w g s p n d v) (hp : p ≤ s.size) (hs : s.size ≤ 9223372036854775000) :
    Calls Tryz.prog 94 #[.pointer (some ⟨g, 0, none⟩)] w (RPost w g s n d v Value.string (nameS s p)) := by
  have hqs := skip_le s p hp
  have HK := Lib.hid (blanks_any w g s p n d v h hp hs)
  have HN : Hid (nameS s p = if startI (byt s (skip s p)) then
    if 64 < nameE s (skip s p + 1) - skip s p then .bad 290 (skip s p) else .ok (s.extract (skip s p) (nameE s (skip s p + 1))) (nameE s (skip s p + 1))
  else .bad 290 (skip s p)) := rfl
  clear h
  generalize skip s p = o at *
  go_enter Tryz.func94, Tryz.ntmps94
  go_wp2_with fail
  refine HK.out.mono ?_
  rintro x w1 ⟨rfl, h1, k1⟩
  obtain ⟨c0, c1, c2, c3, c4, f1, f2, f3, f4⟩ := h1.cells
  have H1 := Lib.hid h1
  have K1 := Lib.hid k1
  clear h1 k1
  go_wp2_with fail
  clear c0 c1 c2 c3 c4 f1 f2 f3 f4
  go_loopw [] (fun wr => ∃ (q f : Nat), o ≤ q ∧ q ≤ s.size ∧ s.size ≤ q + f ∧ Rr wr g s q n d v ∧ Keep [g] w wr ∧ (q = o ∨ o < q ∧ startI (byt s o) = true ∧ spanF (fun i => nameI (byt s i)) f q = nameE s (o + 1))) (fun wr => s.size + 1 - rdrAt wr g)
  case atStart => exact ⟨o, s.size - o, Nat.le_refl _, hqs, by omega, H1.out, K1.out, .inl rfl⟩
  case round =>
    obtain ⟨q, f, hoq, hq, hf, hR, hK, hF⟩ := hrel
    obtain ⟨c0, c1, c2, c3, c4, f1, f2, f3, f4⟩ := hR.cells
    have HR := Lib.hid hR
    have HK2 := Lib.hid hK
    clear hR hK HK H1 K1
    by_cases hqo : q = o
    · subst hqo
      clear hF
      by_cases hlt : q < s.size
      · have HB := Lib.hid (byt_in hlt)
        have hlt' : (q : Int) < s.size := by omega
        have hx := nameStart_any s[q].toNat (by omega) (by have := s[q].toNat_lt; omega)
        by_cases hbl : startI s[q].toNat = true
        · have HS : Hid (startI (byt s q) = true) := by unfold Hid; rw [HB.out]; exact hbl
          rw [hbl] at hx
          have HX := Lib.hid hx
          clear hx hbl
          go_wp2
          go_quiet ((go_at_call 134; exact Calls.quiet_of_same ((HX.out _).mono (fun e w' h => ⟨h.1, h.2.symm⟩))))
          go_wp2
          go_roundw
          case rel => exact ⟨q + 1, s.size - (q + 1), by omega, by omega, by omega, (HR.out.drewN _).setAt _ _ (by omega), (HK2.out.drewN _).setCell (.inl (by simp)) _, .inr ⟨by omega, HS.out, rfl⟩⟩
          case measure => rw [HR.out.at_, ((HR.out.drewN _).setAt (q + 1) _ (by omega)).at_]; omega
        · have hbl' : startI s[q].toNat = false := by simpa using hbl
          have HF2 : Hid (nameS s p = .bad 290 q) := by
            have := HN.out
            rw [HB.out, if_neg hbl] at this
            exact this
          rw [hbl'] at hx
          have HX := Lib.hid hx
          clear hx hbl hbl'
          go_wp2
          go_quiet ((go_at_call 134; exact Calls.quiet_of_same ((HX.out _).mono (fun e w' h => ⟨h.1, h.2.symm⟩))))
          go_wp2_with (go_at_call 37; refine (rfail_any _ _ _ _).mono ?_; rintro x w3 ⟨rfl, rfl⟩)
          rw [HF2.out]
          exact ⟨rfl, rfl, HK2.out.drewN _⟩
      · have HF2 : Hid (nameS s p = .bad 290 q) := by
          have := HN.out
          rw [byt_out (by omega), if_neg (by decide)] at this
          exact this
        have hlt' : decide (q < s.size) = false := by simpa using hlt
        clear hlt
        go_wp2
        go_quiet (fail)
        go_wp2_with (go_at_call 37; refine (rfail_any _ _ _ _).mono ?_; rintro x w3 ⟨rfl, rfl⟩)
        rw [HF2.out]
        exact ⟨rfl, rfl, HK2.out.drewN _⟩
    · obtain ⟨hoq2, hst, hsp⟩ : o < q ∧ startI (byt s o) = true ∧ spanF (fun i => nameI (byt s i)) f q = nameE s (o + 1) := hF.resolve_left hqo
      have HST := Lib.hid hst
      have HF := Lib.hid hsp
      have e1 : ((q : Int) == o) = false := by simp; omega
      have e2 : (o : Int) < q := by omega
      have e3 : decide (o < q) = true := by simpa using hoq2
      clear hF hst hsp
      by_cases hlt : q < s.size
      · have HB := Lib.hid (byt_in hlt)
        have hlt' : (q : Int) < s.size := by omega
        have hx := nameByte_any s[q].toNat (by omega) (by have := s[q].toNat_lt; omega)
        obtain ⟨f, rfl⟩ : ∃ f', f = f' + 1 := ⟨f - 1, by omega⟩
        by_cases hbl : nameI s[q].toNat = true
        · have HF2 : Hid (spanF (fun i => nameI (byt s i)) f (q + 1) = nameE s (o + 1)) := by
            have := HF.out
            unfold spanF at this
            rw [HB.out, if_pos hbl] at this
            exact this
          rw [hbl] at hx
          have HX := Lib.hid hx
          clear hx hbl
          go_wp2
          go_quiet ((go_at_call 135; exact Calls.quiet_of_same ((HX.out _).mono (fun e w' h => ⟨h.1, h.2.symm⟩))))
          go_wp2
          go_roundw
          case rel => exact ⟨q + 1, f, by omega, by omega, by omega, (HR.out.drewN _).setAt _ _ (by omega), (HK2.out.drewN _).setCell (.inl (by simp)) _, .inr ⟨by omega, HST.out, HF2.out⟩⟩
          case measure => rw [HR.out.at_, ((HR.out.drewN _).setAt (q + 1) _ (by omega)).at_]; omega
        · have hbl' : nameI s[q].toNat = false := by simpa using hbl
          have HF2 : Hid (q = nameE s (o + 1)) := by
            have := HF.out
            unfold spanF at this
            rw [HB.out, if_neg hbl] at this
            exact this
          have HN2 : Hid (nameS s p = if 64 < q - o then .bad 290 o else .ok (s.extract o q) q) := by
            have := HN.out
            rw [HST.out, if_pos rfl, ← HF2.out] at this
            exact this
          rw [hbl'] at hx
          have HX := Lib.hid hx
          clear hx hbl hbl' HN
          by_cases h64 : 64 < q - o
          · have HF3 : Hid (nameS s p = .bad 290 o) := by have := HN2.out; rw [if_pos h64] at this; exact this
            have e4 : (64 : Int) < (q : Int) - o := by omega
            clear h64
            go_wp2
            go_quiet ((go_at_call 135; exact Calls.quiet_of_same ((HX.out _).mono (fun e w' h => ⟨h.1, h.2.symm⟩))))
            go_wp2_with (go_at_call 37; refine (rfail_any _ _ _ _).mono ?_; rintro x w3 ⟨rfl, rfl⟩)
            rw [HF3.out]
            exact ⟨rfl, rfl, HK2.out.drewN _⟩
          · have HF3 : Hid (nameS s p = .ok (s.extract o q) q) := by have := HN2.out; rw [if_neg h64] at this; exact this
            have e4 : ¬ (64 : Int) < (q : Int) - o := by omega
            clear h64
            go_wp2
            go_quiet ((go_at_call 135; exact Calls.quiet_of_same ((HX.out _).mono (fun e w' h => ⟨h.1, h.2.symm⟩))))
            go_wp2
            go_quiet (fail)
            go_wp2
            go_ret
            rw [HF3.out]
            exact ⟨rfl, (HR.out.drewN _).drewN _, (HK2.out.drewN _).drewN _⟩
      · have HF2 : Hid (q = nameE s (o + 1)) := by
          have := HF.out
          cases f with
          | zero => exact this
          | succ f =>
            unfold spanF at this
            rw [byt_out (by omega), if_neg (by decide)] at this
            exact this
        have hlt' : decide (q < s.size) = false := by simpa using hlt
        have HN2 : Hid (nameS s p = if 64 < q - o then .bad 290 o else .ok (s.extract o q) q) := by
          have := HN.out
          rw [HST.out, if_pos rfl, ← HF2.out] at this
          exact this
        clear hlt HN
        by_cases h64 : 64 < q - o
        · have HF3 : Hid (nameS s p = .bad 290 o) := by have := HN2.out; rw [if_pos h64] at this; exact this
          have e4 : (64 : Int) < (q : Int) - o := by omega
          clear h64
          go_wp2
          go_quiet (fail)
          go_wp2_with (go_at_call 37; refine (rfail_any _ _ _ _).mono ?_; rintro x w3 ⟨rfl, rfl⟩)
          rw [HF3.out]
          exact ⟨rfl, rfl, HK2.out.drewN _⟩
        · have HF3 : Hid (nameS s p = .ok (s.extract o q) q) := by have := HN2.out; rw [if_neg h64] at this; exact this
          have e4 : ¬ (64 : Int) < (q : Int) - o := by omega
          clear h64
          go_wp2
          go_quiet (fail)
          go_wp2
          go_quiet (fail)
          go_wp2
          go_ret
          rw [HF3.out]
          exact ⟨rfl, (HR.out.drewN _).drewN _, (HK2.out.drewN _).drewN _⟩
end Go.Proofs.YtjldgcpmdcoejaaGreatDoor
