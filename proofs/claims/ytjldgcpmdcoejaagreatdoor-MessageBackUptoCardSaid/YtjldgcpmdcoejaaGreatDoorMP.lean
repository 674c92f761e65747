/- Walks: number, count, inPlural, quotes of the reader of messages. -/
import Derived.Test.YtjldgcpmdcoejaaGreatDoorMO
namespace Go.Proofs.YtjldgcpmdcoejaaGreatDoor
open Go.RowKit

theorem byte_one (s : ByteArray) (q : Nat) (h : q < s.size) : allB digI (s.extract q (q + 1)) = digI (byt s q) := by
  have hsz : (s.extract q (q + 1)).size = 1 := by rw [ByteArray.size_extract]; omega
  have h0 : byt (s.extract q (q + 1)) 0 = byt s q := by
    rw [byt_in (by omega), byt_in h]
    congr 2
    simp [ByteArray.getElem_extract]
  unfold allB
  cases hd : digI (byt s q)
  · simp only [decide_eq_false_iff_not]
    intro hc
    have := hc.2 0 (by omega)
    rw [h0, hd] at this
    cases this
  · simp only [decide_eq_true_eq]
    refine ⟨by omega, fun j hj => ?_⟩
    have : j = 0 := by omega
    subst this
    rw [h0]; exact hd

set_option maxRecDepth 100000 in
set_option maxHeartbeats 2000000 in
/-- The reader's number. -/
theorem rnumber_any {B : Nat} (w : World) (g : Nat) (s : ByteArray) (p n d : Nat) (v : Value) (hE : EnvM B w) (hBg : B ≤ g) (h : Rr w g s p n d v) (hp : p ≤ s.size) (hs : s.size ≤ 1000000000) :
    Calls Tryz.prog 140 #[.pointer (some ⟨g, 0, none⟩)] w (RPost w g s n d v (Value.int .i64) (numS s p)) := by
  have HE := Lib.hid hE
  have HR0 := Lib.hid h
  obtain ⟨c0, c1, c2, c3, c4, f1, f2, f3, f4⟩ := h.cells
  clear h hE
  go_enter Tryz.func140, Tryz.ntmps140
  go_wp2
  clear c0 c1 c2 c3 c4 f1 f2 f3 f4
  go_loopw [] (fun wr => ∃ (q f : Nat), p ≤ q ∧ q ≤ s.size ∧ s.size ≤ q + f ∧ Rr wr g s q n d v ∧ Keep [g] w wr ∧ spanF (fun i => digI (byt s i)) f q = digE s p) (fun wr => s.size + 1 - rdrAt wr g)
  case atStart => exact ⟨p, s.size - p, Nat.le_refl _, hp, by omega, HR0.out, Keep.refl _ _, rfl⟩
  case round =>
    obtain ⟨q, f, hpq, hq, hf, hR, hK, hF⟩ := hrel
    obtain ⟨c0, c1, c2, c3, c4, f1, f2, f3, f4⟩ := hR.cells
    have HR := Lib.hid hR
    have HK := Lib.hid hK
    have HF := Lib.hid hF
    clear hR hK hF HR0
    have HT : Hid (∀ W, Keep [g] w W → Calls Tryz.prog 117 #[.string (s.extract p q)] W (NPost W (s.extract p q))) := fun W hk =>
      number_any W _ (HE.out.keep hk (by simpa using hBg)) (by rw [ByteArray.size_extract]; omega)
    by_cases hgo : q < s.size ∧ digI (byt s q) = true
    · obtain ⟨hlt, hdg⟩ := hgo
      obtain ⟨f, rfl⟩ : ∃ f', f = f' + 1 := ⟨f - 1, by omega⟩
      have HF2 : Hid (spanF (fun i => digI (byt s i)) f (q + 1) = digE s p) := by
        have := HF.out
        unfold spanF at this
        rw [if_pos hdg] at this
        exact this
      have HX : Hid (∀ W, Calls Tryz.prog 167 #[.string (s.extract q (q + 1))] W fun e w' => e = .returned (.bool true) ∧ w' = W) := fun W => by
        have := digits_any (s.extract q (q + 1)) (by rw [ByteArray.size_extract]; omega) W
        rw [byte_one s q hlt, hdg] at this
        exact this.mono fun e w' h => ⟨h.1, h.2.symm⟩
      have s1 : IntKind.i64.wrap ((q : Int) + 1) = (q : Int) + 1 := IntWalk.i64_in _ (by omega)
      have s2 : (0 : Int) ≤ (q : Int) + 1 := by omega
      have s3 : ((q : Int) + 1).toNat = q + 1 := by omega
      have s4 : (q : Int) ≤ (q : Int) + 1 := by omega
      have s5 : (q : Int) + 1 ≤ s.size := by omega
      have hlt' : (q : Int) < s.size := by omega
      clear hdg HT
      go_wp2
      go_quiet ((go_at_call 167; exact Calls.quiet_of_same (HX.out _)))
      clear s1 s2 s3 s4 s5
      go_wp2
      go_roundw
      case rel => exact ⟨q + 1, f, by omega, by omega, by omega, (HR.out.drewN _).setAt _ _ (by omega), (HK.out.drewN _).setCell (.inl (by simp)) _, HF2.out⟩
      case measure => rw [HR.out.at_, ((HR.out.drewN _).setAt (q + 1) _ (by omega)).at_]; omega
    · have HF2 : Hid (q = digE s p) := by
        have := HF.out
        cases f with
        | zero => exact this
        | succ f =>
          unfold spanF at this
          rw [if_neg (by
            intro hd
            by_cases hlt : q < s.size
            · exact hgo ⟨hlt, hd⟩
            · rw [byt_out (by omega)] at hd; exact absurd hd (by decide))] at this
          exact this
      have s1 : IntKind.i64.wrap ((q : Int) + 1) = (q : Int) + 1 := IntWalk.i64_in _ (by omega)
      have s2 : (0 : Int) ≤ (q : Int) + 1 := by omega
      have s3 : ((q : Int) + 1).toNat = q + 1 := by omega
      have s4 : (q : Int) ≤ (q : Int) + 1 := by omega
      have s6 : (p : Int) ≤ q := by omega
      by_cases hlt : q < s.size
      · have hdg : digI (byt s q) = false := by
          cases hd : digI (byt s q)
          · rfl
          · exact absurd ⟨hlt, hd⟩ hgo
        have HX : Hid (∀ W, Calls Tryz.prog 167 #[.string (s.extract q (q + 1))] W fun e w' => e = .returned (.bool false) ∧ w' = W) := fun W => by
          have := digits_any (s.extract q (q + 1)) (by rw [ByteArray.size_extract]; omega) W
          rw [byte_one s q hlt, hdg] at this
          exact this.mono fun e w' h => ⟨h.1, h.2.symm⟩
        have hlt' : (q : Int) < s.size := by omega
        have s5 : (q : Int) + 1 ≤ s.size := by omega
        clear hdg hgo
        cases hnv : numV (s.extract p q) with
        | none =>
          have HN : Hid (numS s p = .bad 290 p) := by unfold Hid numS; rw [← HF2.out, hnv]
          have HT2 : Hid (∀ W, Keep [g] w W → Calls Tryz.prog 117 #[.string (s.extract p q)] W fun e w' => ∃ v' : Int, e = .returned (.tuple #[.int .i64 v', .bool false]) ∧ Below W.heap.size W w') := fun W hk =>
            (HT.out W hk).mono fun e w' ⟨v', h1, h2, h3⟩ => ⟨v', by rw [h1, hnv]; rfl, h3⟩
          clear hnv HT
          go_wp2
          go_quiet ((go_at_call 167; exact Calls.quiet_of_same (HX.out _)))
          clear s1 s2 s3 s4 s5
          go_wp2
          go_region_held3 (fun W => W.cell? ⟨g, 0, none⟩ = some (.string s) ∧ W.cell? ⟨g, 1, none⟩ = some (.int .i64 q)) (first | exact ⟨c0, c1⟩ | exact ⟨i0, i1⟩) (first | (go_at_call 117; refine (HT2.out _ (HK.out.drewN _)).mono ?_; rintro e w' ⟨v', rfl, hb⟩; have HB := Lib.hid hb; have hR2 := (HR.out.drewN _).below hb HR.out.lt; obtain ⟨i0, i1, i2, i3, i4, j1, j2, j3, j4⟩ := hR2.cells; have HR2 := Lib.hid hR2; clear hb hR2))
          all_goals
            go_wp2_with (go_at_call 37; refine (rfail_any _ _ _ _).mono ?_; rintro x w3 ⟨rfl, rfl⟩)
            rw [HN.out]
            exact ⟨rfl, rfl, (HK.out.drewN _).below_ge HB.out HK.out.size⟩
        | some x =>
          have HN : Hid (numS s p = .ok x q) := by unfold Hid numS; rw [← HF2.out, hnv]
          have HT2 : Hid (∀ W, Keep [g] w W → Calls Tryz.prog 117 #[.string (s.extract p q)] W fun e w' => e = .returned (.tuple #[.int .i64 x, .bool true]) ∧ Below W.heap.size W w') := fun W hk =>
            (HT.out W hk).mono fun e w' ⟨v', h1, h2, h3⟩ => ⟨by rw [h1, hnv, h2 x hnv]; rfl, h3⟩
          clear hnv HT
          go_wp2
          go_quiet ((go_at_call 167; exact Calls.quiet_of_same (HX.out _)))
          clear s1 s2 s3 s4 s5
          go_wp2
          go_region_held3 (fun W => W.cell? ⟨g, 0, none⟩ = some (.string s) ∧ W.cell? ⟨g, 1, none⟩ = some (.int .i64 q)) (first | exact ⟨c0, c1⟩ | exact ⟨i0, i1⟩) (first | (go_at_call 117; refine (HT2.out _ (HK.out.drewN _)).mono ?_; rintro e w' ⟨rfl, hb⟩; have HB := Lib.hid hb; have hR2 := (HR.out.drewN _).below hb HR.out.lt; obtain ⟨i0, i1, i2, i3, i4, j1, j2, j3, j4⟩ := hR2.cells; have HR2 := Lib.hid hR2; clear hb hR2))
          all_goals
            go_wp2
            go_ret
            rw [HN.out]
            exact ⟨rfl, HR2.out, (HK.out.drewN _).below_ge HB.out HK.out.size⟩
      · have hlt' : decide (q < s.size) = false := by simpa using hlt
        have s5 : True := trivial
        clear hgo hlt
        cases hnv : numV (s.extract p q) with
        | none =>
          have HN : Hid (numS s p = .bad 290 p) := by unfold Hid numS; rw [← HF2.out, hnv]
          have HT2 : Hid (∀ W, Keep [g] w W → Calls Tryz.prog 117 #[.string (s.extract p q)] W fun e w' => ∃ v' : Int, e = .returned (.tuple #[.int .i64 v', .bool false]) ∧ Below W.heap.size W w') := fun W hk =>
            (HT.out W hk).mono fun e w' ⟨v', h1, h2, h3⟩ => ⟨v', by rw [h1, hnv]; rfl, h3⟩
          clear hnv HT
          go_wp2
          go_quiet (fail)
          clear s1 s2 s3 s4 s5
          go_wp2
          go_region_held3 (fun W => W.cell? ⟨g, 0, none⟩ = some (.string s) ∧ W.cell? ⟨g, 1, none⟩ = some (.int .i64 q)) (first | exact ⟨c0, c1⟩ | exact ⟨i0, i1⟩) (first | (go_at_call 117; refine (HT2.out _ (HK.out.drewN _)).mono ?_; rintro e w' ⟨v', rfl, hb⟩; have HB := Lib.hid hb; have hR2 := (HR.out.drewN _).below hb HR.out.lt; obtain ⟨i0, i1, i2, i3, i4, j1, j2, j3, j4⟩ := hR2.cells; have HR2 := Lib.hid hR2; clear hb hR2))
          all_goals
            go_wp2_with (go_at_call 37; refine (rfail_any _ _ _ _).mono ?_; rintro x w3 ⟨rfl, rfl⟩)
            rw [HN.out]
            exact ⟨rfl, rfl, (HK.out.drewN _).below_ge HB.out HK.out.size⟩
        | some x =>
          have HN : Hid (numS s p = .ok x q) := by unfold Hid numS; rw [← HF2.out, hnv]
          have HT2 : Hid (∀ W, Keep [g] w W → Calls Tryz.prog 117 #[.string (s.extract p q)] W fun e w' => e = .returned (.tuple #[.int .i64 x, .bool true]) ∧ Below W.heap.size W w') := fun W hk =>
            (HT.out W hk).mono fun e w' ⟨v', h1, h2, h3⟩ => ⟨by rw [h1, hnv, h2 x hnv]; rfl, h3⟩
          clear hnv HT
          go_wp2
          go_quiet (fail)
          clear s1 s2 s3 s4 s5
          go_wp2
          go_region_held3 (fun W => W.cell? ⟨g, 0, none⟩ = some (.string s) ∧ W.cell? ⟨g, 1, none⟩ = some (.int .i64 q)) (first | exact ⟨c0, c1⟩ | exact ⟨i0, i1⟩) (first | (go_at_call 117; refine (HT2.out _ (HK.out.drewN _)).mono ?_; rintro e w' ⟨rfl, hb⟩; have HB := Lib.hid hb; have hR2 := (HR.out.drewN _).below hb HR.out.lt; obtain ⟨i0, i1, i2, i3, i4, j1, j2, j3, j4⟩ := hR2.cells; have HR2 := Lib.hid hR2; clear hb hR2))
          all_goals
            go_wp2
            go_ret
            rw [HN.out]
            exact ⟨rfl, HR2.out, (HK.out.drewN _).below_ge HB.out HK.out.size⟩
end Go.Proofs.YtjldgcpmdcoejaaGreatDoor
