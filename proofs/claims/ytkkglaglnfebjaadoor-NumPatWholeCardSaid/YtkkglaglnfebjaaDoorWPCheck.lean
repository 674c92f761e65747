/- Walks: numpat's Check. -/
import Derived.Test.YtkkglaglnfebjaaDoorWFits
import Derived.Deep.DeepCutAuto
import Derived.IntWalk
namespace Go.Proofs.YtkkglaglnfebjaaDoor
open Go.RowKit Go.IntWalk

theorem within_any (n lo hi : Int) (w : World) :
    Calls Tryd.prog 54 #[.int .i64 n, .int .i64 lo, .int .i64 hi] w fun e w' => e = .returned (.bool (withinB n lo hi)) ∧ w = w' := by
  go_enter Tryd.func54, Tryd.ntmps54
  go_wp2
  all_goals
    go_ret
    exact ⟨congrArg Ending.returned (congrArg Value.bool (show _ = withinB n lo hi by go_light; grind [withinB])), rfl⟩

set_option maxRecDepth 100000 in
set_option maxHeartbeats 1000000 in
theorem pcheck_any (w : World) (v1 v2 v3 v4 : Value) (p : PatD) (hp : RdP w v1 v2 v3 v4 p) (hsz : PatSz p) :
    Calls Tryd.prog 20 #[patV v1 v2 v3 v4 p] w fun e w' => e = .returned (.int .i64 (errB (rightB p))) ∧ Keep [] w w' := by
  have HP := Lib.hid hp
  have HSz := Lib.hid hsz
  obtain ⟨⟨_, _, hz3, hz4⟩, _⟩ := hsz
  obtain ⟨⟨A1, k1, rfl, _, _, _⟩, ⟨A2, k2, rfl, _, _, _⟩, ⟨A3, k3, rfl, a3, b3, _⟩, ⟨A4, k4, rfl, a4, b4, _⟩⟩ := hp
  obtain ⟨l1, l2, neg, l3, l4, mi, mf, xf, g, g2⟩ := p
  simp only [patV] at *
  unfold maxLen at b3 b4
  go_enter Tryd.func20, Tryd.ntmps20
  have HW : Hid (withinB g 1 63 = true → withinB g2 1 63 = true → wrap64 (g + g2) = g + g2) := fun h1 h2 => by
    simp only [withinB, decide_eq_true_eq] at h1 h2
    exact wrap64_in _ (by omega)
  go_upto_region 1 with fail
  go_cut [0, 3] (fun _ s3 wx => s3 = .bool (groupsB g g2) ∧ w.alloc (.cells #[.slice A1 l1.length k1, .slice A2 l2.length k2, .bool neg, .slice A3 l3.length k3, .slice A4 l4.length k4, .int .i64 mi, .int .i64 mf, .int .i64 xf, .int .i64 g, .int .i64 g2] 25) = wx)
  case first =>
    go_wp2_with (go_at_call 54; refine (within_any _ _ _ _).mono ?_; rintro e w' ⟨rfl, rfl⟩)
    all_goals
      go_meet
      refine ⟨congrArg Value.bool ?_, by (go_light; clear HP HSz HW; simp [*])⟩
      have hw := HW.out
      go_light
      clear HP HSz HW
      grind [withinB, groupsB]
  case rest =>
    obtain ⟨rfl, rfl⟩ := hcut
    cases h1 : withinB mi 1 64
    · have HR : Hid (rightB ⟨l1, l2, neg, l3, l4, mi, mf, xf, g, g2⟩ = false) := by
        unfold Hid; grind [rightB, numsB, withinB, groupsB]
      go_wp2_with (go_at_call 54; refine (within_any _ _ _ _).mono ?_; rintro e w' ⟨rfl, rfl⟩)
      go_ret
      exact ⟨by rw [HR.out]; rfl, (Keep.refl _ _).alloc _⟩
    cases h2 : withinB xf 0 64
    · have HR : Hid (rightB ⟨l1, l2, neg, l3, l4, mi, mf, xf, g, g2⟩ = false) := by
        unfold Hid; grind [rightB, numsB, withinB, groupsB]
      go_wp2_with (go_at_call 54; refine (within_any _ _ _ _).mono ?_; rintro e w' ⟨rfl, rfl⟩)
      go_ret
      exact ⟨by rw [HR.out]; rfl, (Keep.refl _ _).alloc _⟩
    cases h3 : withinB mf 0 xf
    · have HR : Hid (rightB ⟨l1, l2, neg, l3, l4, mi, mf, xf, g, g2⟩ = false) := by
        unfold Hid; grind [rightB, numsB, withinB, groupsB]
      go_wp2_with (go_at_call 54; refine (within_any _ _ _ _).mono ?_; rintro e w' ⟨rfl, rfl⟩)
      go_ret
      exact ⟨by rw [HR.out]; rfl, (Keep.refl _ _).alloc _⟩
    cases h4 : groupsB g g2
    · have HR : Hid (rightB ⟨l1, l2, neg, l3, l4, mi, mf, xf, g, g2⟩ = false) := by
        unfold Hid; grind [rightB, numsB, withinB, groupsB]
      go_wp2_with (go_at_call 54; refine (within_any _ _ _ _).mono ?_; rintro e w' ⟨rfl, rfl⟩)
      go_ret
      exact ⟨by rw [HR.out]; rfl, (Keep.refl _ _).alloc _⟩
    have HN : Hid (numsB ⟨l1, l2, neg, l3, l4, mi, mf, xf, g, g2⟩ = true) := by
      unfold Hid; grind [numsB, withinB, groupsB]
    go_upto_region 9 with (go_at_call 54; refine (within_any _ _ _ _).mono ?_; rintro e w' ⟨rfl, rfl⟩)
    all_goals first
      | (have key : rightB ⟨l1, l2, neg, l3, l4, mi, mf, xf, g, g2⟩ = false := by
           have hn := HN.out
           go_light
           clear HP HSz HW HN h1 h2 h3 h4
           have e3 : 0 < l3.length → l3.isEmpty = false := by cases l3 <;> simp
           have e4 : 0 < l4.length → l4.isEmpty = false := by cases l4 <;> simp
           grind [rightB]
         go_ret
         exact ⟨by rw [key]; rfl, (Keep.refl _ _).alloc _⟩)
      | skip
    all_goals
      have HB : Hid (rightB ⟨l1, l2, neg, l3, l4, mi, mf, xf, g, g2⟩ = tailFrom ⟨l1, l2, neg, l3, l4, mi, mf, xf, g, g2⟩ 0) := by
        have hn := HN.out
        unfold Hid
        go_light
        clear HP HSz HW HN h1 h2 h3 h4
        have e3 : ¬ 0 < l3.length → l3.isEmpty = true := by cases l3 <;> simp
        have e4 : ¬ 0 < l4.length → l4.isEmpty = true := by cases l4 <;> simp
        simp only [rightB, tailFrom, rightTail]
        grind
      have ix0 : ∀ (w : World) (x0 x1 x2 x3 : Value), (Instr.index 102 (.agg #[x0, x1, x2, x3]) (.int .i64 0)).run Tryd.prog w = .ok x0 w := fun _ _ _ _ _ => by kernel_rfl
      have ix1 : ∀ (w : World) (x0 x1 x2 x3 : Value), (Instr.index 102 (.agg #[x0, x1, x2, x3]) (.int .i64 1)).run Tryd.prog w = .ok x1 w := fun _ _ _ _ _ => by kernel_rfl
      have ix2 : ∀ (w : World) (x0 x1 x2 x3 : Value), (Instr.index 102 (.agg #[x0, x1, x2, x3]) (.int .i64 2)).run Tryd.prog w = .ok x2 w := fun _ _ _ _ _ => by kernel_rfl
      have ix3 : ∀ (w : World) (x0 x1 x2 x3 : Value), (Instr.index 102 (.agg #[x0, x1, x2, x3]) (.int .i64 3)).run Tryd.prog w = .ok x3 w := fun _ _ _ _ _ => by kernel_rfl
      have hF : ∀ W v l, RdA w v l → AffSz l → Keep [] w W → Hid (Calls Tryd.prog 55 #[v] W fun e w' => e = .returned (.bool (fitsS 0 l)) ∧ Keep [] W w') := fun W v l h hz hk => fits_any W v l (h.keep_nil hk) hz
      go_wp2
      go_loopg [79] 4 (fun k i wr => ∃ m : Nat, m + k = 4 ∧ i = .int .i64 m ∧ tailFrom ⟨l1, l2, neg, l3, l4, mi, mf, xf, g, g2⟩ m = rightB ⟨l1, l2, neg, l3, l4, mi, mf, xf, g, g2⟩ ∧ Keep [] w wr)
      case atStart => exact ⟨0, rfl, rfl, HB.out.symm, (Keep.refl _ _).alloc _⟩
      case round =>
        obtain ⟨m, hm, rfl, ht, hk⟩ := hrel
        have HT := Lib.hid ht
        have HK := Lib.hid hk
        have Hm := Lib.hid hm
        have hm4 : m = 0 ∨ m = 1 ∨ m = 2 ∨ m = 3 ∨ m = 4 := by omega
        clear ht hk hm HB HN HW h1 h2 h3 h4
        rcases hm4 with rfl | rfl | rfl | rfl | rfl
        · have HC := hF wr _ _ HP.out.pre (fun a ha => HSz.out.txt a (.inl ha)) HK.out
          clear hF
          cases hv : fitsS 0 l1
          · have HR : Hid (rightB ⟨l1, l2, neg, l3, l4, mi, mf, xf, g, g2⟩ = false) := by
              rw [tailFrom_step _ 0 (by omega)] at HT
              have := HT.out; simp only [pieceAt, hv] at this; exact this.symm
            have HC2 := HC.out
            rw [hv] at HC2
            have HC3 := Lib.hid HC2
            clear HC HC2 hv HT
            go_wp2_with (go_at_call 55; refine HC3.out.mono ?_; rintro e w' ⟨rfl, hk2⟩)
            go_ret
            exact ⟨by rw [HR.out]; rfl, HK.out.nil hk2⟩
          · have HT2 : Hid (tailFrom ⟨l1, l2, neg, l3, l4, mi, mf, xf, g, g2⟩ (0 + 1) = rightB ⟨l1, l2, neg, l3, l4, mi, mf, xf, g, g2⟩) := by
              rw [tailFrom_step _ 0 (by omega)] at HT
              have := HT.out; simp only [pieceAt, hv, Bool.true_and] at this; exact this
            have HC2 := HC.out
            rw [hv] at HC2
            have HC3 := Lib.hid HC2
            clear HC HC2 hv HT
            go_wp2_with (go_at_call 55; refine HC3.out.mono ?_; rintro e w' ⟨rfl, hk2⟩)
            go_roundg 3
            case measure => have := Hm.out; omega
            case rel => exact ⟨0 + 1, rfl, rfl, HT2.out, HK.out.nil hk2⟩
        · have HC := hF wr _ _ HP.out.suf (fun a ha => HSz.out.txt a (.inr (.inl ha))) HK.out
          clear hF
          cases hv : fitsS 0 l2
          · have HR : Hid (rightB ⟨l1, l2, neg, l3, l4, mi, mf, xf, g, g2⟩ = false) := by
              rw [tailFrom_step _ 1 (by omega)] at HT
              have := HT.out; simp only [pieceAt, hv] at this; exact this.symm
            have HC2 := HC.out
            rw [hv] at HC2
            have HC3 := Lib.hid HC2
            clear HC HC2 hv HT
            go_wp2_with (go_at_call 55; refine HC3.out.mono ?_; rintro e w' ⟨rfl, hk2⟩)
            go_ret
            exact ⟨by rw [HR.out]; rfl, HK.out.nil hk2⟩
          · have HT2 : Hid (tailFrom ⟨l1, l2, neg, l3, l4, mi, mf, xf, g, g2⟩ (1 + 1) = rightB ⟨l1, l2, neg, l3, l4, mi, mf, xf, g, g2⟩) := by
              rw [tailFrom_step _ 1 (by omega)] at HT
              have := HT.out; simp only [pieceAt, hv, Bool.true_and] at this; exact this
            have HC2 := HC.out
            rw [hv] at HC2
            have HC3 := Lib.hid HC2
            clear HC HC2 hv HT
            go_wp2_with (go_at_call 55; refine HC3.out.mono ?_; rintro e w' ⟨rfl, hk2⟩)
            go_roundg 2
            case measure => have := Hm.out; omega
            case rel => exact ⟨1 + 1, rfl, rfl, HT2.out, HK.out.nil hk2⟩
        · have HC := hF wr _ _ HP.out.npre (fun a ha => HSz.out.txt a (.inr (.inr (.inl ha)))) HK.out
          clear hF
          cases hv : fitsS 0 l3
          · have HR : Hid (rightB ⟨l1, l2, neg, l3, l4, mi, mf, xf, g, g2⟩ = false) := by
              rw [tailFrom_step _ 2 (by omega)] at HT
              have := HT.out; simp only [pieceAt, hv] at this; exact this.symm
            have HC2 := HC.out
            rw [hv] at HC2
            have HC3 := Lib.hid HC2
            clear HC HC2 hv HT
            go_wp2_with (go_at_call 55; refine HC3.out.mono ?_; rintro e w' ⟨rfl, hk2⟩)
            go_ret
            exact ⟨by rw [HR.out]; rfl, HK.out.nil hk2⟩
          · have HT2 : Hid (tailFrom ⟨l1, l2, neg, l3, l4, mi, mf, xf, g, g2⟩ (2 + 1) = rightB ⟨l1, l2, neg, l3, l4, mi, mf, xf, g, g2⟩) := by
              rw [tailFrom_step _ 2 (by omega)] at HT
              have := HT.out; simp only [pieceAt, hv, Bool.true_and] at this; exact this
            have HC2 := HC.out
            rw [hv] at HC2
            have HC3 := Lib.hid HC2
            clear HC HC2 hv HT
            go_wp2_with (go_at_call 55; refine HC3.out.mono ?_; rintro e w' ⟨rfl, hk2⟩)
            go_roundg 1
            case measure => have := Hm.out; omega
            case rel => exact ⟨2 + 1, rfl, rfl, HT2.out, HK.out.nil hk2⟩
        · have HC := hF wr _ _ HP.out.nsuf (fun a ha => HSz.out.txt a (.inr (.inr (.inr ha)))) HK.out
          clear hF
          cases hv : fitsS 0 l4
          · have HR : Hid (rightB ⟨l1, l2, neg, l3, l4, mi, mf, xf, g, g2⟩ = false) := by
              rw [tailFrom_step _ 3 (by omega)] at HT
              have := HT.out; simp only [pieceAt, hv] at this; exact this.symm
            have HC2 := HC.out
            rw [hv] at HC2
            have HC3 := Lib.hid HC2
            clear HC HC2 hv HT
            go_wp2_with (go_at_call 55; refine HC3.out.mono ?_; rintro e w' ⟨rfl, hk2⟩)
            go_ret
            exact ⟨by rw [HR.out]; rfl, HK.out.nil hk2⟩
          · have HT2 : Hid (tailFrom ⟨l1, l2, neg, l3, l4, mi, mf, xf, g, g2⟩ (3 + 1) = rightB ⟨l1, l2, neg, l3, l4, mi, mf, xf, g, g2⟩) := by
              rw [tailFrom_step _ 3 (by omega)] at HT
              have := HT.out; simp only [pieceAt, hv, Bool.true_and] at this; exact this
            have HC2 := HC.out
            rw [hv] at HC2
            have HC3 := Lib.hid HC2
            clear HC HC2 hv HT
            go_wp2_with (go_at_call 55; refine HC3.out.mono ?_; rintro e w' ⟨rfl, hk2⟩)
            go_roundg 0
            case measure => have := Hm.out; omega
            case rel => exact ⟨3 + 1, rfl, rfl, HT2.out, HK.out.nil hk2⟩
        · have HR : Hid (rightB ⟨l1, l2, neg, l3, l4, mi, mf, xf, g, g2⟩ = true) := HT.out.symm
          clear hF HT
          go_wp2
          go_ret
          exact ⟨by rw [HR.out]; rfl, HK.out⟩
end Go.Proofs.YtkkglaglnfebjaaDoor
