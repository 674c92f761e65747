/- Walks: style of the reader of messages. -/
import Derived.Test.YtjldgcpmdcoejaaGreatDoorMW
import Derived.Test.YtjldgcpmdcoejaaGreatDoorTR
namespace Go.Proofs.YtjldgcpmdcoejaaGreatDoor
open Go.RowKit

theorem on_is (g : Nat) (s : ByteArray) (q n d : Nat) (v : Value) (w : World) (b : Int) (t : Bool) (h : Rr w g s q n d v) (hb : 0 ≤ b) (ht : (byt s q == b) = t) (k : Nat) :
    Calls Tryz.prog 68 #[.pointer (some ⟨g, 0, none⟩), .int .u8 b] (w.drewN k) fun x w' => x = .returned (.bool t) ∧ ∃ m, w' = (w.drewN k).drewN m := by
  have := on_any (w.drewN k) g s q n d v b (h.drewN k) hb
  rw [ht] at this
  exact this

set_option maxRecDepth 100000 in
set_option maxHeartbeats 4000000 in
/-- style. -/
theorem style_any (w : World) (g : Nat) (s : ByteArray) (p n d : Nat) (v : Value) (h : Rr w g s p n d v) (hp : p ≤ s.size) (hs : s.size ≤ 1000000000) :
    Calls Tryz.prog 100 #[.pointer (some ⟨g, 0, none⟩)] w (RPost w g s n d v Value.string (styleS s p)) := by
  have hqs := skip_le s p hp
  have HK := Lib.hid (blanks_any w g s p n d v h hp (by omega))
  have HN : Hid (styleS s p = if (trimB (s.extract (skip s p) (styE s (skip s p)))).size = 0 then .bad 290 (styE s (skip s p))
  else if 64 < (trimB (s.extract (skip s p) (styE s (skip s p)))).size then .bad 290 (skip s p)
  else .ok (trimB (s.extract (skip s p) (styE s (skip s p)))) (styE s (skip s p))) := rfl
  clear h
  generalize skip s p = o at *
  go_enter Tryz.func100, Tryz.ntmps100
  go_wp2_with fail
  refine HK.out.mono ?_
  rintro x w1 ⟨rfl, h1, k1⟩
  obtain ⟨c0, c1, c2, c3, c4, f1, f2, f3, f4⟩ := h1.cells
  have H1 := Lib.hid h1
  have K1 := Lib.hid k1
  clear h1 k1
  go_wp2_with fail
  clear c0 c1 c2 c3 c4 f1 f2 f3 f4
  go_loopw [] (fun wr => ∃ (q f : Nat), o ≤ q ∧ q ≤ s.size ∧ s.size ≤ q + f ∧ Rr wr g s q n d v ∧ Keep [g] w wr ∧ spanF (fun i => styI (byt s i)) f q = styE s o) (fun wr => s.size + 1 - rdrAt wr g)
  case atStart => exact ⟨o, s.size - o, Nat.le_refl _, hqs, by omega, H1.out, K1.out, rfl⟩
  case round =>
    obtain ⟨q, f, hoq, hq, hf, hR, hK, hF⟩ := hrel
    obtain ⟨c0, c1, c2, c3, c4, f1, f2, f3, f4⟩ := hR.cells
    have HR := Lib.hid hR
    have HK2 := Lib.hid hK
    have HF := Lib.hid hF
    clear hR hK hF HK H1 K1
    by_cases hgo : q < s.size ∧ styI (byt s q) = true
    · obtain ⟨hlt, hst⟩ := hgo
      obtain ⟨f, rfl⟩ : ∃ f', f = f' + 1 := ⟨f - 1, by omega⟩
      have HF2 : Hid (spanF (fun i => styI (byt s i)) f (q + 1) = styE s o) := by
        have := HF.out
        unfold spanF at this
        rw [if_pos hst] at this
        exact this
      have hlt' : (q : Int) < s.size := by omega
      unfold styI at hst
      simp only [Bool.and_eq_true, Bool.not_eq_true', decide_eq_true_eq] at hst
      obtain ⟨⟨⟨_, t1⟩, t2⟩, t3⟩ := hst
      have T1 := Lib.hid t1
      have T2 := Lib.hid t2
      have T3 := Lib.hid t3
      clear t1 t2 t3
      go_wp2
      go_quiet (first | (go_at_call_of 68 (Value.int .u8 123); exact Calls.quiet_of (on_is g s q n d v wr 123 false HR.out (by omega) T1.out _)) | (go_at_call_of 68 (Value.int .u8 125); exact Calls.quiet_of (on_is g s q n d v wr 125 false HR.out (by omega) T2.out _)) | (go_at_call_of 68 (Value.int .u8 39); exact Calls.quiet_of (on_is g s q n d v wr 39 false HR.out (by omega) T3.out _)))
      go_wp2
      go_roundw
      case rel => exact ⟨q + 1, f, by omega, by omega, by omega, (HR.out.drewN _).setAt _ _ (by omega), (HK2.out.drewN _).setCell (.inl (by simp)) _, HF2.out⟩
      case measure => rw [HR.out.at_, ((HR.out.drewN _).setAt (q + 1) _ (by omega)).at_]; omega
    · have HF2 : Hid (q = styE s o) := by
        have := HF.out
        cases f with
        | zero => exact this
        | succ f =>
          unfold spanF at this
          rw [if_neg (by
            intro hd
            by_cases hlt : q < s.size
            · exact hgo ⟨hlt, hd⟩
            · rw [byt_out (by omega)] at hd; exact absurd hd (by decide))] at this
          exact this
      have HN2 : Hid (styleS s p = if (trimB (s.extract o q)).size = 0 then .bad 290 q else if 64 < (trimB (s.extract o q)).size then .bad 290 o else .ok (trimB (s.extract o q)) q) := by rw [HF2.out]; exact HN.out
      have HT : Hid (∀ W, Calls Tryz.prog 144 #[.string (s.extract o q)] W fun e w' => e = .returned (.string (trimB (s.extract o q))) ∧ Below W.heap.size W w') := fun W => utrim_any _ W (by rw [ByteArray.size_extract]; omega)
      generalize hTB : trimB (s.extract o q) = TB at *
      have s6 : (o : Int) ≤ q := by omega
      have s7 : (q : Int) ≤ s.size := by omega
      clear hTB HN HF HF2
      have HW : Hid ((decide (q < s.size) = false) ∨ ((q : Int) < s.size ∧ ((byt s q == 123) = true ∨ ((byt s q == 123) = false ∧ (byt s q == 125) = true) ∨ ((byt s q == 123) = false ∧ (byt s q == 125) = false ∧ (byt s q == 39) = true)))) := by
        by_cases hlt : q < s.size
        · refine .inr ⟨by omega, ?_⟩
          have hns : styI (byt s q) = false := by
            cases hd : styI (byt s q)
            · rfl
            · exact absurd ⟨hlt, hd⟩ hgo
          have h0 : decide (0 ≤ byt s q) = true := by rw [byt_in hlt]; simp
          unfold styI at hns
          rw [h0] at hns
          cases h1 : (byt s q == 123) <;> cases h2 : (byt s q == 125) <;> cases h3 : (byt s q == 39) <;> simp_all
        · exact .inl (by simpa using hlt)
      clear hgo
      go_upto_region 3 with fail
      go_cut [35] (fun b wy => ∃ bb, b = .bool bb ∧ Hid (bb = false) ∧ ∃ m, wy = wr.drewN m)
      case first =>
        rcases HW.out with hlt | ⟨hlt, h1 | ⟨h1, h2⟩ | ⟨h1, h2, h3⟩⟩
        · clear HW
          go_wp2
          go_quiet (fail)
          go_wp2
          go_meet
          exact ⟨_, rfl, rfl, _, rfl⟩
        · have T1 := Lib.hid h1
          clear h1 HW
          go_wp2
          go_quiet (first | (go_at_call_of 68 (Value.int .u8 123); exact Calls.quiet_of (on_is g s q n d v wr 123 true HR.out (by omega) T1.out _)))
          go_wp2
          go_meet
          exact ⟨_, rfl, rfl, _, rfl⟩
        · have T1 := Lib.hid h1
          have T2 := Lib.hid h2
          clear h1 h2 HW
          go_wp2
          go_quiet (first | (go_at_call_of 68 (Value.int .u8 123); exact Calls.quiet_of (on_is g s q n d v wr 123 false HR.out (by omega) T1.out _)) | (go_at_call_of 68 (Value.int .u8 125); exact Calls.quiet_of (on_is g s q n d v wr 125 true HR.out (by omega) T2.out _)))
          go_wp2
          go_meet
          exact ⟨_, rfl, rfl, _, rfl⟩
        · have T1 := Lib.hid h1
          have T2 := Lib.hid h2
          have T3 := Lib.hid h3
          clear h1 h2 h3 HW
          go_wp2
          go_quiet (first | (go_at_call_of 68 (Value.int .u8 123); exact Calls.quiet_of (on_is g s q n d v wr 123 false HR.out (by omega) T1.out _)) | (go_at_call_of 68 (Value.int .u8 125); exact Calls.quiet_of (on_is g s q n d v wr 125 false HR.out (by omega) T2.out _)) | (go_at_call_of 68 (Value.int .u8 39); exact Calls.quiet_of (on_is g s q n d v wr 39 true HR.out (by omega) T3.out _)))
          go_wp2
          go_meet
          exact ⟨_, rfl, rfl, _, rfl⟩
      case rest =>
      obtain ⟨bb, hu, hbb, m, rfl⟩ := hcut
      obtain rfl : bb = false := hbb.out
      subst hu
      clear hbb HW
      by_cases hz : TB.size = 0
      · have HN3 : Hid (styleS s p = .bad 290 q) := by have := HN2.out; rw [if_pos hz] at this; exact this
        have he : TB.toList.isEmpty = true := empty_iff.2 hz
        clear hz HN2
        go_wp2
        refine region_tail 10 (by kernel_rfl) (by kernel_rfl) ?_
        simp only [List.take_succ_cons, List.take_zero, List.drop_succ_cons, List.drop_zero]
        repeat still_step
        refine wpStill_nil ?_
        go_wp2_with fail
        refine (HT.out _).mono ?_
        rintro x w4 ⟨rfl, hb4⟩
        have hR4 := (HR.out.drewN _).below hb4 HR.out.lt
        obtain ⟨d0, d1, d2, d3, d4, g1, g2, g3, g4⟩ := hR4.cells
        have HR4 := Lib.hid hR4
        have HK4 := Lib.hid ((HK2.out.drewN _).below_ge hb4 HK2.out.size)
        clear hR4 hb4
        go_wp2_with (go_at_call 37; refine (rfail_any _ _ _ _).mono ?_; rintro x w5 ⟨rfl, rfl⟩)
        rw [HN3.out]
        exact ⟨rfl, rfl, HK4.out⟩
      · have he : TB.toList.isEmpty = false := not_empty hz
        by_cases h64 : 64 < TB.size
        · have HN3 : Hid (styleS s p = .bad 290 o) := by have := HN2.out; rw [if_neg hz, if_pos h64] at this; exact this
          have h64' : (64 : Int) < TB.size := by omega
          clear hz HN2 h64
          go_wp2
          refine region_tail 10 (by kernel_rfl) (by kernel_rfl) ?_
          simp only [List.take_succ_cons, List.take_zero, List.drop_succ_cons, List.drop_zero]
          repeat still_step
          refine wpStill_nil ?_
          go_wp2_with fail
          refine (HT.out _).mono ?_
          rintro x w4 ⟨rfl, hb4⟩
          have hR4 := (HR.out.drewN _).below hb4 HR.out.lt
          obtain ⟨d0, d1, d2, d3, d4, g1, g2, g3, g4⟩ := hR4.cells
          have HR4 := Lib.hid hR4
          have HK4 := Lib.hid ((HK2.out.drewN _).below_ge hb4 HK2.out.size)
          clear hR4 hb4
          go_wp2_with (go_at_call 37; refine (rfail_any _ _ _ _).mono ?_; rintro x w5 ⟨rfl, rfl⟩)
          rw [HN3.out]
          exact ⟨rfl, rfl, HK4.out⟩
        · have HN3 : Hid (styleS s p = .ok TB q) := by have := HN2.out; rw [if_neg hz, if_neg h64] at this; exact this
          have h64' : ¬ (64 : Int) < TB.size := by omega
          clear hz HN2 h64
          go_wp2
          refine region_tail 10 (by kernel_rfl) (by kernel_rfl) ?_
          simp only [List.take_succ_cons, List.take_zero, List.drop_succ_cons, List.drop_zero]
          repeat still_step
          refine wpStill_nil ?_
          go_wp2_with fail
          refine (HT.out _).mono ?_
          rintro x w4 ⟨rfl, hb4⟩
          have hR4 := (HR.out.drewN _).below hb4 HR.out.lt
          obtain ⟨d0, d1, d2, d3, d4, g1, g2, g3, g4⟩ := hR4.cells
          have HR4 := Lib.hid hR4
          have HK4 := Lib.hid ((HK2.out.drewN _).below_ge hb4 HK2.out.size)
          clear hR4 hb4
          go_wp2
          go_ret
          rw [HN3.out]
          exact ⟨rfl, HR4.out, HK4.out⟩
end Go.Proofs.YtjldgcpmdcoejaaGreatDoor
