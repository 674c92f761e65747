/- Walks: quoted of the reader of messages. -/
import Derived.Test.YtjldgcpmdcoejaaGreatDoorMV
namespace Go.Proofs.YtjldgcpmdcoejaaGreatDoor
open Go.RowKit

set_option maxRecDepth 100000 in
set_option maxHeartbeats 2000000 in
/-- quoted. -/
theorem rquoted_any (w : World) (g : Nat) (s : ByteArray) (p n d : Nat) (v : Value) (h : Rr w g s p n d v) (hp : p < s.size) (hs : s.size ≤ 1000000000) :
    Calls Tryz.prog 73 #[.pointer (some ⟨g, 0, none⟩)] w (RPost w g s n d v (fun t : List UInt8 => .string ⟨t.toArray⟩) (quotS s p)) := by
  have H := Lib.hid h
  have hgl := h.lt
  obtain ⟨c0, c1, c2, c3, c4, f1, f2, f3, f4⟩ := h.cells
  have HQ : Hid (quotF s p (s.size + 1 - (p + 1)) (p + 1) [] = quotS s p) := rfl
  clear h
  go_enter Tryz.func73, Tryz.ntmps73
  go_wp2
  have HB1 := Lib.hid (Bld.new' (w.setCell ⟨g, 1, none⟩ (.int .i64 ((p : Int) + 1))) w.heap.size (by simp [World.setCell]))
  have H1 : Hid (Rr ((w.setCell ⟨g, 1, none⟩ (.int .i64 ((p : Int) + 1))).alloc (.cells #[.pointer none, .slice none 0 0] 83)) g s (p + 1) n d v) := Blk.alloc (H.out.setAt (p + 1) ((p : Int) + 1) (by omega)) _
  have K1 : Hid (Keep [g] w ((w.setCell ⟨g, 1, none⟩ (.int .i64 ((p : Int) + 1))).alloc (.cells #[.pointer none, .slice none 0 0] 83))) := ((Keep.refl [g] w).setCell (p := ⟨g, 1, none⟩) (.inl (by simp)) _).alloc _
  generalize hb0 : w.heap.size = b0 at *
  have HB0 := Lib.hid hb0
  clear hb0 c0 c1 c2 c3 c4 f1 f2 f3 f4
  have HFR : (s.size : Int) ≤ 1000000000 := by omega
  go_loopw [] (fun wr => ∃ (q f : Nat) (acc : List UInt8), p + 1 ≤ q ∧ q ≤ s.size ∧ s.size + 1 ≤ q + f ∧ Rr wr g s q n d v ∧ Bld b0 acc wr ∧ Keep [g] w wr ∧ acc.length ≤ q ∧ quotF s p f q acc = quotS s p) (fun wr => s.size + 1 - rdrAt wr g)
  case atStart => exact ⟨p + 1, s.size + 1 - (p + 1), [], Nat.le_refl _, by omega, by omega, H1.out, HB1.out, K1.out, Nat.zero_le _, HQ.out⟩
  case round =>
    obtain ⟨q, f, acc, hq1, hq2, hf, hR, hB, hK, hal, hF⟩ := hrel
    obtain ⟨f, rfl⟩ : ∃ f', f = f' + 1 := ⟨f - 1, by omega⟩
    obtain ⟨c0, c1, c2, c3, c4, f1, f2, f3, f4⟩ := hR.cells
    have HR := Lib.hid hR
    have HB := Lib.hid hB
    have HK := Lib.hid hK
    have HF := Lib.hid hF
    clear hR hB hK hF H1 HB1 K1 HQ
    have kst : ∀ (W : World) v, Keep [g] W (W.setCell ⟨g, 1, none⟩ v) := fun W v => (Keep.refl _ _).setCell (.inl (by simp)) _
    have KST := Lib.hid kst
    clear kst
    by_cases hlt : q < s.size
    · have hlt' : (q : Int) < s.size := by omega
      have HY := Lib.hid (byt_in hlt)
      by_cases h39 : byt s q = 39
      · have HO : Hid ((byt s q == 39) = true) := by unfold Hid; rw [h39]; rfl
        by_cases h2 : byt s (q + 1) = 39
        · have HO2 : Hid ((byt s (q + 1) == 39) = true) := by unfold Hid; rw [h2]; rfl
          have hlt2 : q + 1 < s.size := byt_lt (by omega)
          have hlt2' : (q : Int) + 1 < s.size := by omega
          have HY2 : Hid ((s[q + 1].toNat : Int) = 39) := by unfold Hid; rw [← byt_in hlt2]; exact h2
          have HF2 : Hid (quotF s p f (q + 2) (acc ++ [39]) = quotS s p) := by
            have := HF.out
            unfold quotF at this
            rw [dif_pos hlt, if_pos h39, if_pos h2] at this
            exact this
          clear h39 h2
          go_wp2
          go_quiet (fail)
          go_wp2_with fail
          refine (on_any _ g s q n d v 39 (HR.out.drewN _) (by omega)).mono ?_
          rintro x w2 ⟨rfl, k, rfl⟩
          rw [HO.out]
          go_wp2_with fail
          refine (on_any _ g s (q + 1) n d v 39 ((HR.out.drewN _).setAt (q + 1) _ (by omega)) (by omega)).mono ?_
          rintro x w3 ⟨rfl, k2, hw3⟩
          have hR3 : Rr w3 g s (q + 1) n d v := by rw [hw3]; exact ((HR.out.drewN _).setAt (q + 1) _ (by omega)).drewN _
          have HB3 : Hid (Bld b0 acc w3) := by unfold Hid; rw [hw3]; exact ((HB.out.drewN _).keep_blk (KST.out _ _) (HR.out.drewN _) (by decide) (by omega)).drewN _
          have HK3 : Hid (Keep [g] w w3) := by unfold Hid; rw [hw3]; exact ((HK.out.drewN _).same (KST.out _ _)).drewN _
          have hx : ∃ q1, ∃ hl : q1 < s.size, q1 ≤ q + 1 ∧ q + 1 ≤ q1 ∧ Rr w3 g s q1 n d v ∧ (s[q1].toNat : Int) = 39 := ⟨q + 1, hlt2, Nat.le_refl _, Nat.le_refl _, hR3, HY2.out⟩
          clear hw3 c0 c1 c2 c3 c4 f1 f2 f3 f4 hR3 hlt2' HY2 hlt2
          obtain ⟨q1, hl1, hqa, hqb, hR3, hy1⟩ := hx
          have HY2 := Lib.hid hy1
          obtain ⟨c0, c1, c2, c3, c4, f1, f2, f3, f4⟩ := hR3.cells
          have HR3 := Lib.hid hR3
          have hl1' : (q1 : Int) < s.size := by omega
          clear hR3 hy1
          rw [HO2.out]
          go_wp2
          refine region_tail 9 (by kernel_rfl) (by kernel_rfl) ?_
          simp only [List.take_succ_cons, List.take_zero, List.drop_succ_cons, List.drop_zero]
          repeat still_step
          refine wpStill_nil ?_
          go_wp2_with (go_at_call 82; refine (bld_byte _ (by omega) (by have := s[q1].toNat_lt; omega) (HB3.out.drewN _) (by omega)).mono ?_; rintro x w4 ⟨rfl, hB4, hb4, _⟩; have hR4 := (HR3.out.drewN _).below hb4 hgl; obtain ⟨d0, d1, d2, d3, d4, g1, g2, g3, g4⟩ := hR4.cells; have HR4 := Lib.hid hR4; have HB4 := Lib.hid hB4; have HK4 := Lib.hid ((HK3.out.drewN _).below_ge hb4 (Nat.le_of_eq HB0.out)); clear hR4 hB4 hb4)
          go_roundw
          case rel => exact ⟨q + 2, f, _, by omega, by omega, by omega, HR4.out.setAt _ _ (by omega), HB4.out.keep_blk (KST.out _ _) HR4.out (by decide) (by omega), HK4.out.same (KST.out _ _), by simp; omega, by rw [HY2.out]; exact HF2.out⟩
          case measure => rw [HR.out.at_, (HR4.out.setAt (q + 2) _ (by omega)).at_]; omega
        · have HO2 : Hid ((byt s (q + 1) == 39) = false) := by unfold Hid; simpa using h2
          have HF2 : Hid (quotS s p = .ok acc (q + 1)) := by
            have := HF.out
            unfold quotF at this
            rw [dif_pos hlt, if_pos h39, if_neg h2] at this
            exact this.symm
          clear h39 h2
          go_wp2
          go_quiet (fail)
          go_wp2_with fail
          refine (on_any _ g s q n d v 39 (HR.out.drewN _) (by omega)).mono ?_
          rintro x w2 ⟨rfl, k, rfl⟩
          rw [HO.out]
          go_wp2_with fail
          refine (on_any _ g s (q + 1) n d v 39 ((HR.out.drewN _).setAt (q + 1) _ (by omega)) (by omega)).mono ?_
          rintro x w3 ⟨rfl, k2, hw3⟩
          have hR3 : Rr w3 g s (q + 1) n d v := by rw [hw3]; exact ((HR.out.drewN _).setAt (q + 1) _ (by omega)).drewN _
          have HB3 : Hid (Bld b0 acc w3) := by unfold Hid; rw [hw3]; exact ((HB.out.drewN _).keep_blk (KST.out _ _) (HR.out.drewN _) (by decide) (by omega)).drewN _
          have HK3 : Hid (Keep [g] w w3) := by unfold Hid; rw [hw3]; exact ((HK.out.drewN _).same (KST.out _ _)).drewN _
          clear hw3 c0 c1 c2 c3 c4 f1 f2 f3 f4
          have HR3 := Lib.hid hR3
          clear hR3
          rw [HO2.out]
          go_wp2_with (go_at_call 55; refine (bld_str HB3.out).mono ?_; rintro x w4 ⟨rfl, hB4, hb4, _⟩)
          go_ret
          rw [HF2.out]
          exact ⟨rfl, HR3.out.below hb4 hgl, HK3.out.below_ge hb4 (Nat.le_of_eq HB0.out)⟩
      · have HO : Hid ((byt s q == 39) = false) := by unfold Hid; simpa using h39
        have HF2 : Hid (quotF s p f (q + 1) (acc ++ [s[q]]) = quotS s p) := by
          have := HF.out
          unfold quotF at this
          rw [dif_pos hlt, if_neg h39] at this
          exact this
        clear h39
        go_wp2
        go_quiet (fail)
        go_wp2_with fail
        refine (on_any _ g s q n d v 39 (HR.out.drewN _) (by omega)).mono ?_
        rintro x w3 ⟨rfl, k, hw3⟩
        have hR3 : Rr w3 g s q n d v := by rw [hw3]; exact (HR.out.drewN _).drewN _
        have HB3 : Hid (Bld b0 acc w3) := by unfold Hid; rw [hw3]; exact (HB.out.drewN _).drewN _
        have HK3 : Hid (Keep [g] w w3) := by unfold Hid; rw [hw3]; exact (HK.out.drewN _).drewN _
        clear hw3 c0 c1 c2 c3 c4 f1 f2 f3 f4
        obtain ⟨c0, c1, c2, c3, c4, f1, f2, f3, f4⟩ := hR3.cells
        have HR3 := Lib.hid hR3
        clear hR3
        rw [HO.out]
        go_wp2
        refine region_tail 9 (by kernel_rfl) (by kernel_rfl) ?_
        simp only [List.take_succ_cons, List.take_zero, List.drop_succ_cons, List.drop_zero]
        repeat still_step
        refine wpStill_nil ?_
        go_wp2_with (go_at_call 82; refine (bld_byte _ (by omega) (by have := s[q].toNat_lt; omega) (HB3.out.drewN _) (by omega)).mono ?_; rintro x w4 ⟨rfl, hB4, hb4, _⟩; have hR4 := (HR3.out.drewN _).below hb4 hgl; obtain ⟨d0, d1, d2, d3, d4, g1, g2, g3, g4⟩ := hR4.cells; have HR4 := Lib.hid hR4; have HB4 := Lib.hid hB4; have HK4 := Lib.hid ((HK3.out.drewN _).below_ge hb4 (Nat.le_of_eq HB0.out)); clear hR4 hB4 hb4)
        go_roundw
        case rel => exact ⟨q + 1, f, _, by omega, by omega, by omega, HR4.out.setAt _ _ (by omega), HB4.out.keep_blk (KST.out _ _) HR4.out (by decide) (by omega), HK4.out.same (KST.out _ _), by simp; omega, by have := HF2.out; simpa using this⟩
        case measure => rw [HR.out.at_, (HR4.out.setAt (q + 1) _ (by omega)).at_]; omega
    · have HF2 : Hid (quotS s p = .bad 290 p) := by
        have := HF.out
        unfold quotF at this
        rw [dif_neg hlt] at this
        exact this.symm
      have hlt' : decide (q < s.size) = false := by simpa using hlt
      clear hlt
      go_wp2
      go_quiet (fail)
      go_wp2_with (go_at_call 37; refine (rfail_any _ _ _ _).mono ?_; rintro x w3 ⟨rfl, rfl⟩)
      rw [HF2.out]
      exact ⟨rfl, rfl, HK.out.drewN _⟩
end Go.Proofs.YtjldgcpmdcoejaaGreatDoor
