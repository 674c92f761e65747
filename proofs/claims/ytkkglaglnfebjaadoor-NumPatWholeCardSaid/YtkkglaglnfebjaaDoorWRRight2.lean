/- Walks: the reference's Right. -/
import Derived.Test.YtkkglaglnfebjaaDoorWRRight
namespace Go.Proofs.YtkkglaglnfebjaaDoor
open Go.RowKit Go.IntWalk

set_option maxRecDepth 100000 in
set_option maxHeartbeats 2000000 in
theorem rright_no (w : World) (v1 v2 v3 v4 : Value) (p : PatD) (hp : RdP w v1 v2 v3 v4 p) (hsz : PatSz p) (hno : (numsB p && (p.neg || (p.npre.isEmpty && p.nsuf.isEmpty))) = false) :
    Calls Tryd.prog 19 #[patV v1 v2 v3 v4 p] w fun e w' => e = .returned (.bool (rightB p)) ∧ Keep [] w w' := by
  have HR : Hid (rightB p = false) := by unfold Hid rightB; rw [hno]; rfl
  obtain ⟨⟨_, _, hz3, hz4⟩, _⟩ := hsz
  obtain ⟨⟨A1, k1, rfl, _, _, _⟩, ⟨A2, k2, rfl, _, _, _⟩, ⟨A3, k3, rfl, a3, b3, _⟩, ⟨A4, k4, rfl, a4, b4, _⟩⟩ := hp
  obtain ⟨l1, l2, neg, l3, l4, mi, mf, xf, g, g2⟩ := p
  simp only [patV] at *
  unfold maxLen at b3 b4
  have HNo := Lib.hid hno
  have e3 : Hid (l3.length = 0 → l3.isEmpty = true) := by intro h; cases l3 <;> simp at h ⊢
  have e4 : Hid (l4.length = 0 → l4.isEmpty = true) := by intro h; cases l4 <;> simp at h ⊢
  clear hno
  go_enter Tryd.func19, Tryd.ntmps19
  go_upto_region 8 with fail
  all_goals first
    | (go_ret
       exact ⟨by rw [HR.out]; rfl, (Keep.refl _ _).alloc _⟩)
    | (exfalso
       have hn := HNo.out
       have h3 := e3.out
       have h4 := e4.out
       go_light
       clear HR HNo e3 e4
       grind [numsB, groupsB])

set_option maxRecDepth 100000 in
set_option maxHeartbeats 2000000 in
theorem rright_yes (w : World) (v1 v2 v3 v4 : Value) (p : PatD) (hp : RdP w v1 v2 v3 v4 p) (hsz : PatSz p) (hyes : (numsB p && (p.neg || (p.npre.isEmpty && p.nsuf.isEmpty))) = true) :
    Calls Tryd.prog 19 #[patV v1 v2 v3 v4 p] w fun e w' => e = .returned (.bool (rightB p)) ∧ Keep [] w w' := by
  obtain ⟨l1, l2, neg, l3, l4, mi, mf, xf, g, g2⟩ := p
  have HR : Hid (rightB ⟨l1, l2, neg, l3, l4, mi, mf, xf, g, g2⟩ = (fitsS 0 l1 && (fitsS 0 l2 && (fitsS 0 l3 && fitsS 0 l4)))) := by unfold Hid rightB; rw [hyes]; rfl
  have HP := Lib.hid hp
  have HF1 : ∀ W, Keep [] w W → Hid (Calls Tryd.prog 53 #[v1] W fun e w' => e = .returned (.bool (fitsS 0 l1)) ∧ Keep [] W w') := fun W hk => rfits_any W v1 _ (hp.pre.keep_nil hk) (fun a ha => hsz.txt a (.inl ha))
  have HF2 : ∀ W, Keep [] w W → Hid (Calls Tryd.prog 53 #[v2] W fun e w' => e = .returned (.bool (fitsS 0 l2)) ∧ Keep [] W w') := fun W hk => rfits_any W v2 _ (hp.suf.keep_nil hk) (fun a ha => hsz.txt a (.inr (.inl ha)))
  have HF3 : ∀ W, Keep [] w W → Hid (Calls Tryd.prog 53 #[v3] W fun e w' => e = .returned (.bool (fitsS 0 l3)) ∧ Keep [] W w') := fun W hk => rfits_any W v3 _ (hp.npre.keep_nil hk) (fun a ha => hsz.txt a (.inr (.inr (.inl ha))))
  have HF4 : ∀ W, Keep [] w W → Hid (Calls Tryd.prog 53 #[v4] W fun e w' => e = .returned (.bool (fitsS 0 l4)) ∧ Keep [] W w') := fun W hk => rfits_any W v4 _ (hp.nsuf.keep_nil hk) (fun a ha => hsz.txt a (.inr (.inr (.inr ha))))
  have HB0 := Lib.hid (PatAt.new w v1 v2 v3 v4 ⟨l1, l2, neg, l3, l4, mi, mf, xf, g, g2⟩)
  have hnum : (1 ≤ mi ∧ mi ≤ 64 ∧ 0 ≤ xf ∧ xf ≤ 64 ∧ 0 ≤ mf ∧ mf ≤ xf) ∧
    (g = 0 ∧ g2 = 0 ∨ 1 ≤ g ∧ g ≤ 63 ∧ 1 ≤ g2 ∧ g2 ≤ 63 ∧ (g = g2 ∨ g + g2 < 64)) := by
    have h := hyes
    simp only [numsB, groupsB, Bool.and_eq_true, decide_eq_true_eq] at h
    exact h.1
  have hneg : (!neg && decide (0 < (l3.length : Int) + l4.length)) = false := by
    have h := hyes
    simp only [Bool.and_eq_true, Bool.or_eq_true, List.isEmpty_iff] at h
    rcases h.2 with h2 | ⟨h2, h3⟩
    · simp [h2]
    · simp [h2, h3]
  obtain ⟨⟨m1, m2, m3, m4, m5, m6⟩, ng⟩ := hnum
  have HNG := Lib.hid ng
  have HNeg := Lib.hid hneg
  obtain ⟨⟨_, _, hz3, hz4⟩, _⟩ := hsz
  obtain ⟨A3, k3, hv3, _, _, _⟩ := hp.npre
  obtain ⟨A4, k4, hv4, _, _, _⟩ := hp.nsuf
  subst hv3 hv4
  clear hyes hp ng hneg
  unfold boxP at HB0
  simp only [patV] at *
  go_enter Tryd.func19, Tryd.ntmps19
  have HK0 : Hid (Keep [] w (w.alloc (.cells #[v1, v2, .bool neg, .slice A3 l3.length k3, .slice A4 l4.length k4, .int .i64 mi, .int .i64 mf, .int .i64 xf, .int .i64 g, .int .i64 g2] 25))) := (Keep.refl _ _).alloc _
  rcases (show ((g == 0) = true ∧ (g2 == 0) = true) ∨ ((g == 0) = false ∧ 1 ≤ g ∧ g < 64 ∧ 1 ≤ g2 ∧ g2 < 64 ∧ (g != g2) = false) ∨ ((g == 0) = false ∧ 1 ≤ g ∧ g < 64 ∧ 1 ≤ g2 ∧ g2 < 64 ∧ (g != g2) = true ∧ g + g2 < 64) by
    have := HNG.out
    by_cases hc : g = g2
    · simp [hc]; omega
    · simp [hc]; omega) with ⟨q1, q2⟩ | ⟨q1, q2, q3, q4, q5, q6⟩ | ⟨q1, q2, q3, q4, q5, q6, q7⟩
  all_goals
    cases neg
    · have hlen : (l3.length : Int) + l4.length ≤ 0 := by
        have := HNeg.out
        simpa using this
      go_upto_region 8 with fail
      obtain ⟨p0, p1, p2, p3, p4, p5, p6, p7, p8, p9, pf, pz⟩ := HB0.out.all
      cases f1 : fitsS 0 l1
      · have HX : Hid (rightB ⟨l1, l2, false, l3, l4, mi, mf, xf, g, g2⟩ = false) := by unfold Hid; rw [HR.out, f1]; rfl
        go_wp2_with fail
        refine (HF1 _ HK0.out).out.mono ?_
        rintro e w1 ⟨rfl, hk1⟩
        have HK1 := Lib.hid (HK0.out.nil hk1)
        have HB1 := Lib.hid (HB0.out.keep hk1 (by simp))
        clear hk1 p0 p1 p2 p3 p4 p5 p6 p7 p8 p9 pf pz
        obtain ⟨p0, p1, p2, p3, p4, p5, p6, p7, p8, p9, pf, pz⟩ := HB1.out.all
        go_wp2
        go_ret
        exact ⟨by rw [HX.out]; rfl, HK1.out⟩
      cases f2 : fitsS 0 l2
      · have HX : Hid (rightB ⟨l1, l2, false, l3, l4, mi, mf, xf, g, g2⟩ = false) := by unfold Hid; rw [HR.out, f1, f2]; rfl
        go_wp2_with fail
        refine (HF1 _ HK0.out).out.mono ?_
        rintro e w1 ⟨rfl, hk1⟩
        have HK1 := Lib.hid (HK0.out.nil hk1)
        have HB1 := Lib.hid (HB0.out.keep hk1 (by simp))
        clear hk1 p0 p1 p2 p3 p4 p5 p6 p7 p8 p9 pf pz
        obtain ⟨p0, p1, p2, p3, p4, p5, p6, p7, p8, p9, pf, pz⟩ := HB1.out.all
        go_wp2_with fail
        refine (HF2 _ HK1.out).out.mono ?_
        rintro e w2 ⟨rfl, hk2⟩
        have HK2 := Lib.hid (HK1.out.nil hk2)
        have HB2 := Lib.hid (HB1.out.keep hk2 (by simp))
        clear hk2 p0 p1 p2 p3 p4 p5 p6 p7 p8 p9 pf pz
        obtain ⟨p0, p1, p2, p3, p4, p5, p6, p7, p8, p9, pf, pz⟩ := HB2.out.all
        go_wp2
        go_ret
        exact ⟨by rw [HX.out]; rfl, HK2.out⟩
      cases f3 : fitsS 0 l3
      · have HX : Hid (rightB ⟨l1, l2, false, l3, l4, mi, mf, xf, g, g2⟩ = false) := by unfold Hid; rw [HR.out, f1, f2, f3]; rfl
        go_wp2_with fail
        refine (HF1 _ HK0.out).out.mono ?_
        rintro e w1 ⟨rfl, hk1⟩
        have HK1 := Lib.hid (HK0.out.nil hk1)
        have HB1 := Lib.hid (HB0.out.keep hk1 (by simp))
        clear hk1 p0 p1 p2 p3 p4 p5 p6 p7 p8 p9 pf pz
        obtain ⟨p0, p1, p2, p3, p4, p5, p6, p7, p8, p9, pf, pz⟩ := HB1.out.all
        go_wp2_with fail
        refine (HF2 _ HK1.out).out.mono ?_
        rintro e w2 ⟨rfl, hk2⟩
        have HK2 := Lib.hid (HK1.out.nil hk2)
        have HB2 := Lib.hid (HB1.out.keep hk2 (by simp))
        clear hk2 p0 p1 p2 p3 p4 p5 p6 p7 p8 p9 pf pz
        obtain ⟨p0, p1, p2, p3, p4, p5, p6, p7, p8, p9, pf, pz⟩ := HB2.out.all
        go_wp2_with fail
        refine (HF3 _ HK2.out).out.mono ?_
        rintro e w3 ⟨rfl, hk3⟩
        have HK3 := Lib.hid (HK2.out.nil hk3)
        have HB3 := Lib.hid (HB2.out.keep hk3 (by simp))
        clear hk3 p0 p1 p2 p3 p4 p5 p6 p7 p8 p9 pf pz
        obtain ⟨p0, p1, p2, p3, p4, p5, p6, p7, p8, p9, pf, pz⟩ := HB3.out.all
        go_wp2
        go_ret
        exact ⟨by rw [HX.out]; rfl, HK3.out⟩
      cases f4 : fitsS 0 l4
      · have HX : Hid (rightB ⟨l1, l2, false, l3, l4, mi, mf, xf, g, g2⟩ = false) := by unfold Hid; rw [HR.out, f1, f2, f3, f4]; rfl
        go_wp2_with fail
        refine (HF1 _ HK0.out).out.mono ?_
        rintro e w1 ⟨rfl, hk1⟩
        have HK1 := Lib.hid (HK0.out.nil hk1)
        have HB1 := Lib.hid (HB0.out.keep hk1 (by simp))
        clear hk1 p0 p1 p2 p3 p4 p5 p6 p7 p8 p9 pf pz
        obtain ⟨p0, p1, p2, p3, p4, p5, p6, p7, p8, p9, pf, pz⟩ := HB1.out.all
        go_wp2_with fail
        refine (HF2 _ HK1.out).out.mono ?_
        rintro e w2 ⟨rfl, hk2⟩
        have HK2 := Lib.hid (HK1.out.nil hk2)
        have HB2 := Lib.hid (HB1.out.keep hk2 (by simp))
        clear hk2 p0 p1 p2 p3 p4 p5 p6 p7 p8 p9 pf pz
        obtain ⟨p0, p1, p2, p3, p4, p5, p6, p7, p8, p9, pf, pz⟩ := HB2.out.all
        go_wp2_with fail
        refine (HF3 _ HK2.out).out.mono ?_
        rintro e w3 ⟨rfl, hk3⟩
        have HK3 := Lib.hid (HK2.out.nil hk3)
        have HB3 := Lib.hid (HB2.out.keep hk3 (by simp))
        clear hk3 p0 p1 p2 p3 p4 p5 p6 p7 p8 p9 pf pz
        obtain ⟨p0, p1, p2, p3, p4, p5, p6, p7, p8, p9, pf, pz⟩ := HB3.out.all
        go_wp2_with fail
        refine (HF4 _ HK3.out).out.mono ?_
        rintro e w4 ⟨rfl, hk4⟩
        have HK4 := Lib.hid (HK3.out.nil hk4)
        have HB4 := Lib.hid (HB3.out.keep hk4 (by simp))
        clear hk4 p0 p1 p2 p3 p4 p5 p6 p7 p8 p9 pf pz
        obtain ⟨p0, p1, p2, p3, p4, p5, p6, p7, p8, p9, pf, pz⟩ := HB4.out.all
        go_wp2
        go_ret
        exact ⟨by rw [HX.out]; rfl, HK4.out⟩
      have HX : Hid (rightB ⟨l1, l2, false, l3, l4, mi, mf, xf, g, g2⟩ = true) := by unfold Hid; rw [HR.out, f1, f2, f3, f4]; rfl
      go_wp2_with fail
      refine (HF1 _ HK0.out).out.mono ?_
      rintro e w1 ⟨rfl, hk1⟩
      have HK1 := Lib.hid (HK0.out.nil hk1)
      have HB1 := Lib.hid (HB0.out.keep hk1 (by simp))
      clear hk1 p0 p1 p2 p3 p4 p5 p6 p7 p8 p9 pf pz
      obtain ⟨p0, p1, p2, p3, p4, p5, p6, p7, p8, p9, pf, pz⟩ := HB1.out.all
      go_wp2_with fail
      refine (HF2 _ HK1.out).out.mono ?_
      rintro e w2 ⟨rfl, hk2⟩
      have HK2 := Lib.hid (HK1.out.nil hk2)
      have HB2 := Lib.hid (HB1.out.keep hk2 (by simp))
      clear hk2 p0 p1 p2 p3 p4 p5 p6 p7 p8 p9 pf pz
      obtain ⟨p0, p1, p2, p3, p4, p5, p6, p7, p8, p9, pf, pz⟩ := HB2.out.all
      go_wp2_with fail
      refine (HF3 _ HK2.out).out.mono ?_
      rintro e w3 ⟨rfl, hk3⟩
      have HK3 := Lib.hid (HK2.out.nil hk3)
      have HB3 := Lib.hid (HB2.out.keep hk3 (by simp))
      clear hk3 p0 p1 p2 p3 p4 p5 p6 p7 p8 p9 pf pz
      obtain ⟨p0, p1, p2, p3, p4, p5, p6, p7, p8, p9, pf, pz⟩ := HB3.out.all
      go_wp2_with fail
      refine (HF4 _ HK3.out).out.mono ?_
      rintro e w4 ⟨rfl, hk4⟩
      have HK4 := Lib.hid (HK3.out.nil hk4)
      have HB4 := Lib.hid (HB3.out.keep hk4 (by simp))
      clear hk4 p0 p1 p2 p3 p4 p5 p6 p7 p8 p9 pf pz
      obtain ⟨p0, p1, p2, p3, p4, p5, p6, p7, p8, p9, pf, pz⟩ := HB4.out.all
      go_wp2
      go_ret
      exact ⟨by rw [HX.out]; rfl, HK4.out⟩
    · go_upto_region 8 with fail
      obtain ⟨p0, p1, p2, p3, p4, p5, p6, p7, p8, p9, pf, pz⟩ := HB0.out.all
      cases f1 : fitsS 0 l1
      · have HX : Hid (rightB ⟨l1, l2, true, l3, l4, mi, mf, xf, g, g2⟩ = false) := by unfold Hid; rw [HR.out, f1]; rfl
        go_wp2_with fail
        refine (HF1 _ HK0.out).out.mono ?_
        rintro e w1 ⟨rfl, hk1⟩
        have HK1 := Lib.hid (HK0.out.nil hk1)
        have HB1 := Lib.hid (HB0.out.keep hk1 (by simp))
        clear hk1 p0 p1 p2 p3 p4 p5 p6 p7 p8 p9 pf pz
        obtain ⟨p0, p1, p2, p3, p4, p5, p6, p7, p8, p9, pf, pz⟩ := HB1.out.all
        go_wp2
        go_ret
        exact ⟨by rw [HX.out]; rfl, HK1.out⟩
      cases f2 : fitsS 0 l2
      · have HX : Hid (rightB ⟨l1, l2, true, l3, l4, mi, mf, xf, g, g2⟩ = false) := by unfold Hid; rw [HR.out, f1, f2]; rfl
        go_wp2_with fail
        refine (HF1 _ HK0.out).out.mono ?_
        rintro e w1 ⟨rfl, hk1⟩
        have HK1 := Lib.hid (HK0.out.nil hk1)
        have HB1 := Lib.hid (HB0.out.keep hk1 (by simp))
        clear hk1 p0 p1 p2 p3 p4 p5 p6 p7 p8 p9 pf pz
        obtain ⟨p0, p1, p2, p3, p4, p5, p6, p7, p8, p9, pf, pz⟩ := HB1.out.all
        go_wp2_with fail
        refine (HF2 _ HK1.out).out.mono ?_
        rintro e w2 ⟨rfl, hk2⟩
        have HK2 := Lib.hid (HK1.out.nil hk2)
        have HB2 := Lib.hid (HB1.out.keep hk2 (by simp))
        clear hk2 p0 p1 p2 p3 p4 p5 p6 p7 p8 p9 pf pz
        obtain ⟨p0, p1, p2, p3, p4, p5, p6, p7, p8, p9, pf, pz⟩ := HB2.out.all
        go_wp2
        go_ret
        exact ⟨by rw [HX.out]; rfl, HK2.out⟩
      cases f3 : fitsS 0 l3
      · have HX : Hid (rightB ⟨l1, l2, true, l3, l4, mi, mf, xf, g, g2⟩ = false) := by unfold Hid; rw [HR.out, f1, f2, f3]; rfl
        go_wp2_with fail
        refine (HF1 _ HK0.out).out.mono ?_
        rintro e w1 ⟨rfl, hk1⟩
        have HK1 := Lib.hid (HK0.out.nil hk1)
        have HB1 := Lib.hid (HB0.out.keep hk1 (by simp))
        clear hk1 p0 p1 p2 p3 p4 p5 p6 p7 p8 p9 pf pz
        obtain ⟨p0, p1, p2, p3, p4, p5, p6, p7, p8, p9, pf, pz⟩ := HB1.out.all
        go_wp2_with fail
        refine (HF2 _ HK1.out).out.mono ?_
        rintro e w2 ⟨rfl, hk2⟩
        have HK2 := Lib.hid (HK1.out.nil hk2)
        have HB2 := Lib.hid (HB1.out.keep hk2 (by simp))
        clear hk2 p0 p1 p2 p3 p4 p5 p6 p7 p8 p9 pf pz
        obtain ⟨p0, p1, p2, p3, p4, p5, p6, p7, p8, p9, pf, pz⟩ := HB2.out.all
        go_wp2_with fail
        refine (HF3 _ HK2.out).out.mono ?_
        rintro e w3 ⟨rfl, hk3⟩
        have HK3 := Lib.hid (HK2.out.nil hk3)
        have HB3 := Lib.hid (HB2.out.keep hk3 (by simp))
        clear hk3 p0 p1 p2 p3 p4 p5 p6 p7 p8 p9 pf pz
        obtain ⟨p0, p1, p2, p3, p4, p5, p6, p7, p8, p9, pf, pz⟩ := HB3.out.all
        go_wp2
        go_ret
        exact ⟨by rw [HX.out]; rfl, HK3.out⟩
      cases f4 : fitsS 0 l4
      · have HX : Hid (rightB ⟨l1, l2, true, l3, l4, mi, mf, xf, g, g2⟩ = false) := by unfold Hid; rw [HR.out, f1, f2, f3, f4]; rfl
        go_wp2_with fail
        refine (HF1 _ HK0.out).out.mono ?_
        rintro e w1 ⟨rfl, hk1⟩
        have HK1 := Lib.hid (HK0.out.nil hk1)
        have HB1 := Lib.hid (HB0.out.keep hk1 (by simp))
        clear hk1 p0 p1 p2 p3 p4 p5 p6 p7 p8 p9 pf pz
        obtain ⟨p0, p1, p2, p3, p4, p5, p6, p7, p8, p9, pf, pz⟩ := HB1.out.all
        go_wp2_with fail
        refine (HF2 _ HK1.out).out.mono ?_
        rintro e w2 ⟨rfl, hk2⟩
        have HK2 := Lib.hid (HK1.out.nil hk2)
        have HB2 := Lib.hid (HB1.out.keep hk2 (by simp))
        clear hk2 p0 p1 p2 p3 p4 p5 p6 p7 p8 p9 pf pz
        obtain ⟨p0, p1, p2, p3, p4, p5, p6, p7, p8, p9, pf, pz⟩ := HB2.out.all
        go_wp2_with fail
        refine (HF3 _ HK2.out).out.mono ?_
        rintro e w3 ⟨rfl, hk3⟩
        have HK3 := Lib.hid (HK2.out.nil hk3)
        have HB3 := Lib.hid (HB2.out.keep hk3 (by simp))
        clear hk3 p0 p1 p2 p3 p4 p5 p6 p7 p8 p9 pf pz
        obtain ⟨p0, p1, p2, p3, p4, p5, p6, p7, p8, p9, pf, pz⟩ := HB3.out.all
        go_wp2_with fail
        refine (HF4 _ HK3.out).out.mono ?_
        rintro e w4 ⟨rfl, hk4⟩
        have HK4 := Lib.hid (HK3.out.nil hk4)
        have HB4 := Lib.hid (HB3.out.keep hk4 (by simp))
        clear hk4 p0 p1 p2 p3 p4 p5 p6 p7 p8 p9 pf pz
        obtain ⟨p0, p1, p2, p3, p4, p5, p6, p7, p8, p9, pf, pz⟩ := HB4.out.all
        go_wp2
        go_ret
        exact ⟨by rw [HX.out]; rfl, HK4.out⟩
      have HX : Hid (rightB ⟨l1, l2, true, l3, l4, mi, mf, xf, g, g2⟩ = true) := by unfold Hid; rw [HR.out, f1, f2, f3, f4]; rfl
      go_wp2_with fail
      refine (HF1 _ HK0.out).out.mono ?_
      rintro e w1 ⟨rfl, hk1⟩
      have HK1 := Lib.hid (HK0.out.nil hk1)
      have HB1 := Lib.hid (HB0.out.keep hk1 (by simp))
      clear hk1 p0 p1 p2 p3 p4 p5 p6 p7 p8 p9 pf pz
      obtain ⟨p0, p1, p2, p3, p4, p5, p6, p7, p8, p9, pf, pz⟩ := HB1.out.all
      go_wp2_with fail
      refine (HF2 _ HK1.out).out.mono ?_
      rintro e w2 ⟨rfl, hk2⟩
      have HK2 := Lib.hid (HK1.out.nil hk2)
      have HB2 := Lib.hid (HB1.out.keep hk2 (by simp))
      clear hk2 p0 p1 p2 p3 p4 p5 p6 p7 p8 p9 pf pz
      obtain ⟨p0, p1, p2, p3, p4, p5, p6, p7, p8, p9, pf, pz⟩ := HB2.out.all
      go_wp2_with fail
      refine (HF3 _ HK2.out).out.mono ?_
      rintro e w3 ⟨rfl, hk3⟩
      have HK3 := Lib.hid (HK2.out.nil hk3)
      have HB3 := Lib.hid (HB2.out.keep hk3 (by simp))
      clear hk3 p0 p1 p2 p3 p4 p5 p6 p7 p8 p9 pf pz
      obtain ⟨p0, p1, p2, p3, p4, p5, p6, p7, p8, p9, pf, pz⟩ := HB3.out.all
      go_wp2_with fail
      refine (HF4 _ HK3.out).out.mono ?_
      rintro e w4 ⟨rfl, hk4⟩
      have HK4 := Lib.hid (HK3.out.nil hk4)
      have HB4 := Lib.hid (HB3.out.keep hk4 (by simp))
      clear hk4 p0 p1 p2 p3 p4 p5 p6 p7 p8 p9 pf pz
      obtain ⟨p0, p1, p2, p3, p4, p5, p6, p7, p8, p9, pf, pz⟩ := HB4.out.all
      go_wp2
      go_ret
      exact ⟨by rw [HX.out]; rfl, HK4.out⟩
end Go.Proofs.YtkkglaglnfebjaaDoor
