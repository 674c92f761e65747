/- Walks: numpat's quoted. -/
import Derived.Test.YtkkglaglnfebjaaDoorWText
import Derived.Test.YtkkglaglnfebjaaDoorBK
import Derived.StillTailTactics
namespace Go.Proofs.YtkkglaglnfebjaaDoor
open Go.RowKit

def QPost (w : World) (g : Nat) (s : ByteArray) (p : Nat) (e ea : Int) : Option (List UInt8 × Nat) → Ending → World → Prop
  | some (t, q), x, w' => x = .returned (.tuple #[.string ⟨t.toArray⟩, .bool true]) ∧ Rd w' g s q e ea ∧ Keep [g] w w'
  | none, x, w' => x = .returned (.tuple #[.string ⟨#[]⟩, .bool false]) ∧ (∃ q, Rd w' g s q 260 ((p : Int) - 1)) ∧ Keep [g] w w'
def posOf (w : World) (g : Nat) : Nat := match w.cell? ⟨g, 1, none⟩ with | some (.int _ n) => n.toNat | _ => 0
theorem Rd.posOf {w : World} {g : Nat} {s : ByteArray} {p : Nat} {e ea : Int} (h : Rd w g s p e ea) : posOf w g = p := by
  unfold Proofs.YtkkglaglnfebjaaDoor.posOf; rw [h.cells.2.1]; simp
theorem Rd.lt {w : World} {g : Nat} {s : ByteArray} {p : Nat} {e ea : Int} (h : Rd w g s p e ea) : g < w.heap.size := Blk.lt h
theorem Rd.below {w w' : World} {g B : Nat} {s : ByteArray} {p : Nat} {e ea : Int} (h : Rd w g s p e ea) (hb : Below B w w') (hg : g < B) : Rd w' g s p e ea := Blk.below h hb hg

theorem extract_len (s : ByteArray) (a b : Nat) (h : b ≤ s.size) : (s.extract a b).data.toList.length = b - a := by
  have : (s.extract a b).data.size = (s.extract a b).size := rfl
  rw [Array.length_toList, this, ByteArray.size_extract]; omega
theorem Rd.drewN {w : World} {g : Nat} {s : ByteArray} {p : Nat} {e ea : Int} (h : Rd w g s p e ea) (n : Nat) : Rd (w.drewN n) g s p e ea := h
theorem apos_idx (s : ByteArray) (q : Nat) (W : World) : Calls Tryd.prog 89 #[.string (s.extract q s.size), .int .u8 39] W fun e w' => e = .returned (.int .i64 (aposAt s q)) ∧ w' = W :=
  Tryd.strings_IndexByte (s.extract q s.size) 39 W

set_option maxRecDepth 100000 in
set_option maxHeartbeats 1000000 in
theorem quoted_any (w : World) (g : Nat) (s : ByteArray) (p : Nat) (e ea : Int) (h : Rd w g s p e ea) (hs : s.size ≤ 1000000000000) (hp : 1 ≤ p) (hps : p ≤ s.size) :
    Calls Tryd.prog 117 #[.pointer (some ⟨g, 0, none⟩)] w (QPost w g s p e ea (quotedS s p)) := by
  have H := Lib.hid h
  have hgl := h.lt
  obtain ⟨c0, c1, c2, c3, f1, f2, f3⟩ := h.cells
  clear h
  by_cases hq : p < s.size ∧ (s.get! p).toNat = 39
  · have HR : Hid (quotedS s p = some ([39], p + 1)) := by unfold Hid quotedS; rw [if_pos hq]
    obtain ⟨hp2, hb⟩ := hq
    have HB : Hid ((s[p].toNat : Int) = 39) := by unfold Hid; rw [← get!_eq s p hp2]; omega
    clear hb
    go_enter Tryd.func117, Tryd.ntmps117
    go_wp2_with (go_at_call 43; refine (take_yes _ g s p e ea 39 H.out (by omega) hp2 HB.out).mono ?_; rintro x w1 ⟨rfl, h1, k1⟩)
    go_ret2
    rw [HR.out]
    exact ⟨rfl, h1, k1⟩
  · have HR : Hid (quotedS s p = quotedF s (s.size + 1 - p) p []) := by unfold Hid quotedS; rw [if_neg hq]
    have HT : Hid (Calls Tryd.prog 43 #[.pointer (some ⟨g, 0, none⟩), .int .u8 39] w fun x w' => x = .returned (.bool false) ∧ Rd w' g s p e ea ∧ Keep [] w w') := by
      by_cases hp2 : p < s.size
      · exact take_no w g s p e ea 39 H.out (by omega) hp2 (by rw [← get!_eq s p hp2]; intro hc; exact hq ⟨hp2, by omega⟩)
      · exact take_end w g s p e ea 39 H.out (by omega) (by omega)
    clear hq
    go_enter Tryd.func117, Tryd.ntmps117
    go_wp2_with (go_at_call 43; refine HT.out.mono ?_; rintro x w1 ⟨rfl, h1, k1⟩)
    have hs1 := k1.size
    have hbw := Bld.new' w1 w1.heap.size rfl
    have HQ := Lib.hid HR.out
    have H1 := Lib.hid ((h1.keep (Keep.of_below (bs := []) (((Below.refl _ w1).alloc (Nat.le_refl _) (Obj.cells #[Value.pointer none, Value.slice none 0 0] 86)))) (by simp) : Rd _ g s p e ea))
    have K1 := Lib.hid (((k1.mono (cs := [g]) (fun _ hx => by cases hx)).alloc (Obj.cells #[Value.pointer none, Value.slice none 0 0] 86)))
    have HB := Lib.hid hbw
    clear h1 k1 hbw HR HT
    generalize hb0 : w1.heap.size = b0 at *
    have HB0 := Lib.hid hb0
    clear hb0
    go_loopw [6] (fun _ wr => ∃ (q f : Nat) (acc : List UInt8), p ≤ q ∧ q ≤ s.size ∧ s.size < q + f ∧ Rd wr g s q e ea ∧ Bld b0 acc wr ∧ Keep [g] w wr ∧ acc.length ≤ q ∧ quotedF s f q acc = quotedS s p) (fun _ wr => s.size + 1 - posOf wr g)
    case atStart => exact ⟨p, s.size + 1 - p, [], Nat.le_refl _, hps, by omega, H1.out, HB.out, K1.out, Nat.zero_le _, HQ.out.symm⟩
    case round =>
      obtain ⟨q, f, acc, hq1, hq2, hf, hR, hB, hK, hal, hF⟩ := hrel
      obtain ⟨f, rfl⟩ : ∃ f', f = f' + 1 := ⟨f - 1, by omega⟩
      clear H1 HB K1 HQ c0 c1 c2 c3 f1 f2 f3
      obtain ⟨c0, c1, c2, c3, f1, f2, f3⟩ := hR.cells
      have HR := Lib.hid hR
      have HB := Lib.hid hB
      have HK := Lib.hid hK
      have HF := Lib.hid hF
      have hge := aposAt_ge s q
      clear hR hB hK hF
      by_cases hneg : aposAt s q < 0
      · have HF2 : Hid (quotedS s p = none) := by
          have := HF.out
          simp only [quotedF] at this
          rw [if_pos hneg] at this
          exact this.symm
        go_wp2
        go_quiet ((go_at_call 89; exact Calls.quiet_of_same (apos_idx s q _)))
        go_wp2_with (go_at_call 116; refine (fail_any _ g s q e ea _ _ (HR.out.drewN _)).mono ?_; rintro x w2 ⟨rfl, h2, k2⟩)
        go_ret2
        rw [HF2.out]
        exact ⟨rfl, ⟨q, h2⟩, (HK.out.drewN _).same k2⟩
      · have hlt := aposAt_lt s q (by omega)
        obtain ⟨k, hk⟩ : ∃ k : Nat, aposAt s q = k := ⟨(aposAt s q).toNat, by omega⟩
        have HI : Hid (∀ W, Calls Tryd.prog 89 #[.string (s.extract q s.size), .int .u8 39] W fun e w' => e = .returned (.int .i64 k) ∧ w' = W) := fun W => by
          rw [← hk]; exact apos_idx s q W
        have hkl : q + k < s.size := by omega
        have Hk := Lib.hid hk
        clear hk hneg hlt hge
        go_wp2
        go_quiet ((go_at_call 89; exact Calls.quiet_of_same (HI.out _)))
        go_wp2
        have hal2 : acc.length + (s.extract q (q + k)).size ≤ 140737488355328 := by simp; omega
        have s1 : IntKind.i64.wrap ((q : Int) + k) = (q : Int) + k := IntWalk.i64_in _ (by omega)
        have s2 : (0 : Int) ≤ (q : Int) + k := by omega
        have s3 : ((q : Int) + k).toNat = q + k := by omega
        have s4 : (q : Int) ≤ (q : Int) + k := by omega
        have s5 : (q : Int) + k ≤ s.size := by omega
        have s6 : q + k ≤ s.size := by omega
        refine region_tail 15 (by kernel_rfl) (by kernel_rfl) ?_
        simp only [List.take_succ_cons, List.take_zero, List.drop_succ_cons, List.drop_zero]
        repeat still_step
        refine wpStill_nil ?_
        clear s1 s2 s3 s4 s5
        have hgb : g < b0 := by omega
        have hlen2 : (acc ++ (s.extract q (q + k)).data.toList).length ≤ q + k := by
          rw [List.length_append, extract_len s q (q + k) (by omega)]; omega
        by_cases hm : q + k + 1 < s.size ∧ (s.get! (q + k + 1)).toNat = 39
        · have HF2 : Hid (quotedF s f (q + k + 2) (acc ++ (s.extract q (q + k)).data.toList ++ [39]) = quotedS s p) := by
            have := HF.out
            simp only [quotedF] at this
            rw [Hk.out, if_neg (by omega), Int.toNat_natCast, if_pos hm] at this
            exact this
          obtain ⟨hm1, hm2⟩ := hm
          have HM : Hid ((s[q + k + 1].toNat : Int) = 39) := by unfold Hid; rw [← get!_eq s _ hm1]; omega
          clear hm2
          go_wp2_with (go_at_call 47; refine (bld_string _ (HB.out.drewN _) hal2).mono ?_; rintro x w2 ⟨rfl, hB2, hb2, _⟩; have hR2 := (HR.out.drewN _).below hb2 hgb; obtain ⟨d0, d1, d2, d3, g1, g2, g3⟩ := hR2.cells; have HR2 := Lib.hid hR2; clear hR2)
          have kst : ∀ v, Keep [g] w2 (w2.setCell ⟨g, 1, none⟩ v) := fun v => (Keep.refl _ _).setCell (.inl (by simp)) _
          refine (take_yes _ g s (q + k + 1) e ea 39 (HR2.out.setAt (q + k + 1) _ (by omega)) (by omega) hm1 HM.out).mono ?_
          rintro x w3 ⟨rfl, hR3, k3⟩
          have K3 := Lib.hid ((((HK.out.drewN _).below_ge hb2 (by omega)).same (kst _)).same k3)
          have HB3 := Lib.hid ((hB2.keep_blk (kst _) HR2.out (by decide) (by omega)).keep_blk k3 (HR2.out.setAt (q + k + 1) _ (by omega)) (by decide) (by omega))
          have HR3 := Lib.hid hR3
          clear hB2 hb2 k3 hR3 kst d0 d1 d2 d3 g1 g2 g3
          go_wp2_with (go_at_call 46; refine (bld_byte 39 (by omega) (by omega) HB3.out (by omega)).mono ?_; rintro x w4 ⟨rfl, hB4, hb4, _⟩)
          go_roundw
          case rel => exact ⟨q + k + 2, f, _, by omega, by omega, by omega, HR3.out.below hb4 hgb, hB4, K3.out.below_ge hb4 (by omega), by rw [List.length_append]; simp only [List.length_cons, List.length_nil]; omega, HF2.out⟩
          case measure => rw [HR.out.posOf, (HR3.out.below hb4 hgb).posOf]; omega
        · have HF2 : Hid (quotedS s p = some (acc ++ (s.extract q (q + k)).data.toList, q + k + 1)) := by
            have := HF.out
            simp only [quotedF] at this
            rw [Hk.out, if_neg (by omega), Int.toNat_natCast, if_neg hm] at this
            exact this.symm
          have HM : Hid (∀ W e ea, Rd W g s (q + k + 1) e ea → Calls Tryd.prog 43 #[.pointer (some ⟨g, 0, none⟩), .int .u8 39] W fun x w' => x = .returned (.bool false) ∧ Rd w' g s (q + k + 1) e ea ∧ Keep [] W w') := fun W e ea h => by
            by_cases hm1 : q + k + 1 < s.size
            · exact take_no W g s _ e ea 39 h (by omega) hm1 (by rw [← get!_eq s _ hm1]; intro hc; exact hm ⟨hm1, by omega⟩)
            · exact take_end W g s _ e ea 39 h (by omega) (by omega)
          clear hm
          go_wp2_with (go_at_call 47; refine (bld_string _ (HB.out.drewN _) hal2).mono ?_; rintro x w2 ⟨rfl, hB2, hb2, _⟩; have hR2 := (HR.out.drewN _).below hb2 hgb; obtain ⟨d0, d1, d2, d3, g1, g2, g3⟩ := hR2.cells; have HR2 := Lib.hid hR2; clear hR2)
          have kst : ∀ v, Keep [g] w2 (w2.setCell ⟨g, 1, none⟩ v) := fun v => (Keep.refl _ _).setCell (.inl (by simp)) _
          refine (HM.out _ e ea (HR2.out.setAt (q + k + 1) _ (by omega))).mono ?_
          rintro x w3 ⟨rfl, hR3, k3⟩
          have K3 := Lib.hid ((((HK.out.drewN _).below_ge hb2 (by omega)).same (kst _)).nil k3)
          have HB3 := Lib.hid ((hB2.keep_blk (kst _) HR2.out (by decide) (by omega)).keep_nil k3)
          have HR3 := Lib.hid hR3
          clear hB2 hb2 k3 hR3 kst d0 d1 d2 d3 g1 g2 g3
          obtain ⟨acc2, HF3, HB4⟩ : ∃ acc2, Hid (quotedS s p = some (acc2, q + k + 1)) ∧ Hid (Bld b0 acc2 w3) := ⟨_, HF2, HB3⟩
          clear HF2 HB3
          go_wp2_with (go_at_call 50; refine (bld_str HB4.out).mono ?_; rintro x w4 ⟨rfl, _, hb4, _⟩)
          go_ret2
          rw [HF3.out]
          exact ⟨rfl, HR3.out.below hb4 hgb, K3.out.below_ge hb4 (by omega)⟩
end Go.Proofs.YtkkglaglnfebjaaDoor
