/- Walks: the law NumPatPrints. -/
import Derived.Test.YtkkglaglnfebjaaDoorWPSame
import Derived.Test.YtkkglaglnfebjaaDoorWSameG
import Derived.Test.YtkkglaglnfebjaaDoorWCopied
import Derived.Deep.RegionHeld3
namespace Go.Proofs.YtkkglaglnfebjaaDoor
open Go.RowKit Go.IntWalk

theorem PatAt.far {w : World} {h g : Nat} {v1 v2 v3 v4 : Value} {p : PatD} (H : PatAt w h v1 v2 v3 v4 p) (hg : h ≠ g) (u0 u1 u2 u3 u4 u5 u6 u7 u8 u9 : Value) :
    PatAt ((((((((((w.setCell ⟨g, 0, none⟩ u0).setCell ⟨g, 1, none⟩ u1).setCell ⟨g, 2, none⟩ u2).setCell ⟨g, 3, none⟩ u3).setCell ⟨g, 4, none⟩ u4).setCell ⟨g, 5, none⟩ u5).setCell ⟨g, 6, none⟩ u6).setCell ⟨g, 7, none⟩ u7).setCell ⟨g, 8, none⟩ u8).setCell ⟨g, 9, none⟩ u9) h v1 v2 v3 v4 p := by
  refine Blk.far ?_ hg _
  refine Blk.far ?_ hg _
  refine Blk.far ?_ hg _
  refine Blk.far ?_ hg _
  refine Blk.far ?_ hg _
  refine Blk.far ?_ hg _
  refine Blk.far ?_ hg _
  refine Blk.far ?_ hg _
  refine Blk.far ?_ hg _
  refine Blk.far ?_ hg _
  exact H
def TxtUp (p : PatD) : Prop := ∀ a, a ∈ p.pre ∨ a ∈ p.suf ∨ a ∈ p.npre ∨ a ∈ p.nsuf → a.t.size ≤ 1048576
theorem TxtUp.sz {p : PatD} (h : TxtUp p) : TxtSz p := fun a ha => Nat.le_trans (h a ha) (by decide)
theorem TxtUp.cut {p : PatD} (h : TxtUp p) : TxtUp (cutD p) := fun a ha => h a (by
  simp only [cutD] at ha
  rcases ha with ha | ha | ha | ha
  · exact .inl (List.mem_of_mem_take ha)
  · exact .inr (.inl (List.mem_of_mem_take ha))
  · exact .inr (.inr (.inl (List.mem_of_mem_take ha)))
  · exact .inr (.inr (.inr (List.mem_of_mem_take ha))))
theorem cut_len (p : PatD) : (cutD p).pre.length ≤ 30 ∧ (cutD p).suf.length ≤ 30 ∧ (cutD p).npre.length ≤ 30 ∧ (cutD p).nsuf.length ≤ 30 := by
  simp only [cutD, List.length_take]
  omega

set_option maxRecDepth 100000 in
set_option maxHeartbeats 8000000 in
theorem law_prints {B : Nat} (w : World) (hE : Env B w) (A1 A2 A3 A4 B1 B2 B3 B4 : Option Addr) (n1 n2 n3 n4 k1 k2 k3 k4 m1 m2 m3 m4 j1 j2 j3 j4 : Nat) (p q : PatD) (hp : RdP w (.slice A1 n1 k1) (.slice A2 n2 k2) (.slice A3 n3 k3) (.slice A4 n4 k4) p) (hn : NilP (.slice A1 n1 k1) (.slice A2 n2 k2) (.slice A3 n3 k3) (.slice A4 n4 k4)) (hsz : TxtUp p) (hq : RdP w (.slice B1 m1 j1) (.slice B2 m2 j2) (.slice B3 m3 j3) (.slice B4 m4 j4) q) :
    Calls Tryd.prog 4 #[patV (.slice A1 n1 k1) (.slice A2 n2 k2) (.slice A3 n3 k3) (.slice A4 n4 k4) p, patV (.slice B1 m1 j1) (.slice B2 m2 j2) (.slice B3 m3 j3) (.slice B4 m4 j4) q] w fun e w' => e = .returned (.bool true) ∧ Keep [] w w' := by
  have HE := Lib.hid hE
  have HP := Lib.hid hp
  have HQ := Lib.hid hq
  have HN := Lib.hid (cut_nil hn)
  have HSz := Lib.hid hsz.sz.cut
  obtain ⟨PS, PE, hPr, hRr⟩ := prints_same (cutD p) hsz.sz.cut (cut_len p) hsz.cut
  have HPr := Lib.hid hPr
  have HRr := Lib.hid hRr
  have HB0 := Lib.hid (PatAt.new w (.slice A1 n1 k1) (.slice A2 n2 k2) (.slice A3 n3 k3) (.slice A4 n4 k4) p)
  have HB0' := Lib.hid ((PatAt.new w (.slice A1 n1 k1) (.slice A2 n2 k2) (.slice A3 n3 k3) (.slice A4 n4 k4) p).alloc (boxP (.slice B1 m1 j1) (.slice B2 m2 j2) (.slice B3 m3 j3) (.slice B4 m4 j4) q))
  have HQ0 : Hid (PatAt ((w.alloc (boxP (.slice A1 n1 k1) (.slice A2 n2 k2) (.slice A3 n3 k3) (.slice A4 n4 k4) p)).alloc (boxP (.slice B1 m1 j1) (.slice B2 m2 j2) (.slice B3 m3 j3) (.slice B4 m4 j4) q)) (w.heap.size + 1) (.slice B1 m1 j1) (.slice B2 m2 j2) (.slice B3 m3 j3) (.slice B4 m4 j4) q) := Blk.new' _ _ _ _ (by simp)
  have HWk := Lib.hid (wakes_any ((w.alloc (boxP (.slice A1 n1 k1) (.slice A2 n2 k2) (.slice A3 n3 k3) (.slice A4 n4 k4) p)).alloc (boxP (.slice B1 m1 j1) (.slice B2 m2 j2) (.slice B3 m3 j3) (.slice B4 m4 j4) q)) (hE.below (((Below.refl B w).alloc hE.le _).alloc (by simp; have := hE.le; omega) _)))
  clear hE hp hsz hn hq hPr hRr HB0
  unfold boxP at HB0' HQ0 HWk
  simp only [patV]
  go_enter Tryd.func4, Tryd.ntmps4
  go_upto_region 3 with (go_at_call 10; refine HWk.out.mono ?_; rintro e w1 ⟨rfl, hk1⟩)
  have HK1 := Lib.hid ((((Keep.refl [] w).alloc _).alloc _).nil hk1)
  have HP1 := Lib.hid (HB0'.out.keep hk1 (by simp))
  have HQ1 := Lib.hid (HQ0.out.keep hk1 (by simp))
  obtain ⟨p0, p1, p2, p3, p4, p5, p6, p7, p8, p9, pf, pz⟩ := HP1.out.all
  obtain ⟨q0, q1, q2, q3, q4, q5, q6, q7, q8, q9, qf, qz⟩ := HQ1.out.all
  clear hk1 HB0' HQ0 HWk HE
  have hCp : ∀ W, Keep [] w1 W → Hid _ := fun W hk => Lib.hid (cut_any W A1 A2 A3 A4 n1 n2 n3 n4 k1 k2 k3 k4 p ((HP.out.keep_nil HK1.out).keep_nil hk))
  have hCq : ∀ W, Keep [] w1 W → Hid _ := fun W hk => Lib.hid (cut_any W B1 B2 B3 B4 m1 m2 m3 m4 j1 j2 j3 j4 q ((HQ.out.keep_nil HK1.out).keep_nil hk))
  go_cut [] (fun wx => PatAt wx w.heap.size (.slice A1 (min n1 30) k1) (.slice A2 (min n2 30) k2) (.slice A3 (min n3 30) k3) (.slice A4 (min n4 30) k4) (cutD p) ∧ PatAt wx (w.heap.size + 1) (.slice B1 (min m1 30) j1) (.slice B2 (min m2 30) j2) (.slice B3 (min m3 30) j3) (.slice B4 (min m4 30) j4) (cutD q) ∧ Keep [] w wx)
  case first =>
    simp only [patV] at hCp hCq
    go_region_with (first | (go_at_call_of 15 (Value.agg #[.slice A1 n1 k1, .slice A2 n2 k2, .bool p.neg, .slice A3 n3 k3, .slice A4 n4 k4, .int .i64 p.mi, .int .i64 p.mf, .int .i64 p.xf, .int .i64 p.g, .int .i64 p.g2]); refine (hCp _ (by first | exact Keep.refl _ _ | exact (Keep.refl _ _).drew | exact (Keep.refl _ _).drewN _)).out.mono ?_; rintro e w2 ⟨rfl, hk2⟩; have HP2 := Lib.hid (PatAt.keep (HP1.out.drewN 1) hk2 (by simp)); have HQ2 := Lib.hid (PatAt.keep (HQ1.out.drewN 1) hk2 (by simp)); have HK2 := Lib.hid ((HK1.out.drewN 1).nil hk2); have HL2 := Lib.hid (((Keep.refl [] w1).drewN 1).nil hk2); obtain ⟨r0, r1, r2, r3, r4, r5, r6, r7, r8, r9, rf, rz⟩ := HP2.out.all; obtain ⟨s0, s1, s2, s3, s4, s5, s6, s7, s8, s9, sf, sz⟩ := HQ2.out.all; clear hk2) | (go_at_call_of 15 (Value.agg #[.slice B1 m1 j1, .slice B2 m2 j2, .bool q.neg, .slice B3 m3 j3, .slice B4 m4 j4, .int .i64 q.mi, .int .i64 q.mf, .int .i64 q.xf, .int .i64 q.g, .int .i64 q.g2]); refine (hCq _ HL2.out).out.mono ?_; rintro e w3 ⟨rfl, hk3⟩; have HP3 := Lib.hid (PatAt.keep HP2.out hk3 (by simp)); have HQ3 := Lib.hid (PatAt.keep HQ2.out hk3 (by simp)); have HK3 := Lib.hid (HK2.out.nil hk3); obtain ⟨t0, t1, t2, t3, t4, t5, t6, t7, t8, t9, tf, tz⟩ := HP3.out.all; obtain ⟨x0, x1, x2, x3, x4, x5, x6, x7, x8, x9, xf, xz⟩ := HQ3.out.all; clear hk3))
    all_goals
      go_wp2
      go_meet
      refine ⟨PatAt.far (PatAt.store HP3.out _ _ _ _ _) (by omega) _ _ _ _ _ _ _ _ _ _, PatAt.store (PatAt.far HQ3.out (by omega) _ _ _ _ _ _ _ _ _ _) _ _ _ _ _, ?_⟩
      repeat (refine Keep.setCell ?_ (.inr (Nat.le_succ _)) _)
      repeat (refine Keep.setCell ?_ (.inr (Nat.le_refl _)) _)
      exact HK3.out
  case rest =>
    obtain ⟨hP2, hQ2, hK2⟩ := hcut
    have HP2 := Lib.hid hP2
    have HQ2 := Lib.hid hQ2
    have HK2 := Lib.hid hK2
    have HRp := Lib.hid (HP.out.keep_nil hK2).cut
    have HRq := Lib.hid (HQ.out.keep_nil hK2).cut
    clear hP2 hQ2 hK2 hCp hCq HP1 HQ1 HK1 HP HQ p0 p1 p2 p3 p4 p5 p6 p7 p8 p9 pf pz q0 q1 q2 q3 q4 q5 q6 q7 q8 q9 qf qz
    generalize cutD p = p at *
    generalize cutD q = q at *
    generalize min n1 30 = n1 at *
    generalize min n2 30 = n2 at *
    generalize min n3 30 = n3 at *
    generalize min n4 30 = n4 at *
    generalize min m1 30 = m1 at *
    generalize min m2 30 = m2 at *
    generalize min m3 30 = m3 at *
    generalize min m4 30 = m4 at *
    obtain ⟨p0, p1, p2, p3, p4, p5, p6, p7, p8, p9, pf, pz⟩ := HP2.out.all
    have HCp := Lib.hid (copied_any wc _ _ _ _ p HRp.out HN.out HSz.out)
    simp only [patV] at HCp
    go_upto_region 4 with fail
    go_cut [5] (fun s5 wx => ∃ (bo : Nat) (U1 U2 U3 U4 : Option Addr) (c1 c2 c3 c4 : Nat), s5 = .pointer (some ⟨bo, 0, none⟩) ∧ PatAt wx bo (.slice U1 p.pre.length c1) (.slice U2 p.suf.length c2) (.slice U3 p.npre.length c3) (.slice U4 p.nsuf.length c4) p ∧ RdP wx (.slice U1 p.pre.length c1) (.slice U2 p.suf.length c2) (.slice U3 p.npre.length c3) (.slice U4 p.nsuf.length c4) p ∧ PatAt wx w.heap.size (.slice A1 n1 k1) (.slice A2 n2 k2) (.slice A3 n3 k3) (.slice A4 n4 k4) p ∧ RdP wx (.slice A1 n1 k1) (.slice A2 n2 k2) (.slice A3 n3 k3) (.slice A4 n4 k4) p ∧ PatAt wx (w.heap.size + 1) (.slice B1 m1 j1) (.slice B2 m2 j2) (.slice B3 m3 j3) (.slice B4 m4 j4) q ∧ RdP wx (.slice B1 m1 j1) (.slice B2 m2 j2) (.slice B3 m3 j3) (.slice B4 m4 j4) q ∧ Keep [] w wx)
    case first =>
      go_wp2_with fail
      refine HCp.out.mono ?_
      rintro e w3 ⟨u1, u2, u3, u4, rfl, hR3, hN3, hK3⟩
      obtain ⟨U1, c1, rfl, _, _, _⟩ := hR3.pre
      obtain ⟨U2, c2, rfl, _, _, _⟩ := hR3.suf
      obtain ⟨U3, c3, rfl, _, _, _⟩ := hR3.npre
      obtain ⟨U4, c4, rfl, _, _, _⟩ := hR3.nsuf
      have HR3 := Lib.hid hR3
      have HK3 := Lib.hid (HK2.out.nil hK3)
      have HP3 := Lib.hid (HP2.out.keep hK3 (by simp))
      have HQ3 := Lib.hid (HQ2.out.keep hK3 (by simp))
      have HRp3 := Lib.hid (HRp.out.keep_nil hK3)
      have HRq3 := Lib.hid (HRq.out.keep_nil hK3)
      clear hR3 hN3 hK3 p0 p1 p2 p3 p4 p5 p6 p7 p8 p9 pf pz HP2 HQ2 HRp HRq HCp
      go_wp2
      go_meet
      exact ⟨w3.heap.size, U1, U2, U3, U4, c1, c2, c3, c4, rfl, Blk.new _ _ _, HR3.out.keep_nil ((Keep.refl _ _).alloc _), HP3.out.alloc _, HRp3.out.keep_nil ((Keep.refl _ _).alloc _), HQ3.out.alloc _, HRq3.out.keep_nil ((Keep.refl _ _).alloc _), HK3.out.alloc _⟩
    case rest =>
      obtain ⟨bb, U1, U2, U3, U4, c1, c2, c3, c4, rfl, hA, hRA, hP, hRp, hQ, hRq, hK⟩ := hcut
      clear p0 p1 p2 p3 p4 p5 p6 p7 p8 p9 pf pz HP2 HQ2 HRp HRq HCp HK2
      have HB := Lib.hid hK
      have HA0 := Lib.hid hA
      have HP0 := Lib.hid hP
      have HQ0 := Lib.hid hQ
      have HCk : ∀ W, Keep [] wc W → Hid (Calls Tryd.prog 20 #[patV (.slice U1 p.pre.length c1) (.slice U2 p.suf.length c2) (.slice U3 p.npre.length c3) (.slice U4 p.nsuf.length c4) p] W fun e w' => e = .returned (.int .i64 (errB (rightB p))) ∧ Keep [] W w') := fun W hk => pcheck_any W _ _ _ _ p (hRA.keep_nil hk) HSz.out
      have HRt : ∀ W, Keep [] wc W → Hid (Calls Tryd.prog 19 #[patV (.slice A1 n1 k1) (.slice A2 n2 k2) (.slice A3 n3 k3) (.slice A4 n4 k4) p] W fun e w' => e = .returned (.bool (rightB p)) ∧ Keep [] W w') := fun W hk => rright_any W _ _ _ _ p (hRp.keep_nil hk) HSz.out
      have HS1 : ∀ W, Keep [] wc W → Hid (Calls Tryd.prog 13 #[patV (.slice U1 p.pre.length c1) (.slice U2 p.suf.length c2) (.slice U3 p.npre.length c3) (.slice U4 p.nsuf.length c4) p, patV (.slice A1 n1 k1) (.slice A2 n2 k2) (.slice A3 n3 k3) (.slice A4 n4 k4) p] W fun e w' => e = .returned (.bool true) ∧ Keep [] W w') := fun W hk => by
        have := rsame_any W _ _ _ _ _ _ _ _ p p (hRA.keep_nil hk) (hRp.keep_nil hk)
        rwa [sameB_self] at this
      have HS2 : ∀ W, Keep [] wc W → Hid (Calls Tryd.prog 21 #[patV (.slice A1 n1 k1) (.slice A2 n2 k2) (.slice A3 n3 k3) (.slice A4 n4 k4) p, patV (.slice B1 m1 j1) (.slice B2 m2 j2) (.slice B3 m3 j3) (.slice B4 m4 j4) q] W fun e w' => e = .returned (.bool (sameB p q)) ∧ Keep [] W w') := fun W hk => psame_any W _ _ _ _ _ _ _ _ p q (hRp.keep_nil hk) (hRq.keep_nil hk)
      have HS3 : ∀ W, Keep [] wc W → Hid (Calls Tryd.prog 13 #[patV (.slice A1 n1 k1) (.slice A2 n2 k2) (.slice A3 n3 k3) (.slice A4 n4 k4) p, patV (.slice B1 m1 j1) (.slice B2 m2 j2) (.slice B3 m3 j3) (.slice B4 m4 j4) q] W fun e w' => e = .returned (.bool (sameB p q)) ∧ Keep [] W w') := fun W hk => rsame_any W _ _ _ _ _ _ _ _ p q (hRp.keep_nil hk) (hRq.keep_nil hk)
      have HS4 : ∀ W, Keep [] wc W → Hid (Calls Tryd.prog 21 #[patV (.slice U1 p.pre.length c1) (.slice U2 p.suf.length c2) (.slice U3 p.npre.length c3) (.slice U4 p.nsuf.length c4) p, patV (.slice A1 n1 k1) (.slice A2 n2 k2) (.slice A3 n3 k3) (.slice A4 n4 k4) p] W fun e w' => e = .returned (.bool true) ∧ Keep [] W w') := fun W hk => by
        have := psame_any W _ _ _ _ _ _ _ _ p p (hRA.keep_nil hk) (hRp.keep_nil hk)
        rwa [sameB_self] at this
      have HPa := Lib.hid (HPr.out wc _ _ _ _ hRA)
      have HPb : ∀ W, Keep [] wc W → Hid (Calls Tryd.prog 18 #[patV (.slice A1 n1 k1) (.slice A2 n2 k2) (.slice A3 n3 k3) (.slice A4 n4 k4) p] W fun e w' => e = .returned (.tuple #[.string PS, .int .i64 PE]) ∧ Keep [] W w') := fun W hk => HRr.out W _ _ _ _ (hRp.keep_nil hk)
      clear hA hRA hP hRp hQ hRq hK HPr HRr HSz
      generalize sameB p q = SB at *
      generalize hRB : rightB p = RB at *
      clear hRB
      simp only [patV] at HCk HRt HS1 HS2 HS3 HS4 HPa HPb
      obtain ⟨p0_0, p0_1, p0_2, p0_3, p0_4, p0_5, p0_6, p0_7, p0_8, p0_9, pf0, pz0⟩ := HP0.out.all; obtain ⟨q0_0, q0_1, q0_2, q0_3, q0_4, q0_5, q0_6, q0_7, q0_8, q0_9, qf0, qz0⟩ := HQ0.out.all; obtain ⟨a0_0, a0_1, a0_2, a0_3, a0_4, a0_5, a0_6, a0_7, a0_8, a0_9, af0, az0⟩ := HA0.out.all
      go_upto_region 6 with (go_at_call 17; refine HPa.out.mono ?_; rintro e w4 ⟨rfl, hk⟩)
      have HK1 := Lib.hid hk
      have HP1 := Lib.hid (HP0.out.keep hk (by simp))
      have HQ1 := Lib.hid (HQ0.out.keep hk (by simp))
      have HA1 := Lib.hid (HA0.out.keep hk (by simp))
      have HPb1 := HPb w4 hk
      clear hk HPa HPb HP0 HQ0 HA0 p0_0 p0_1 p0_2 p0_3 p0_4 p0_5 p0_6 p0_7 p0_8 p0_9 q0_0 q0_1 q0_2 q0_3 q0_4 q0_5 q0_6 q0_7 q0_8 q0_9 a0_0 a0_1 a0_2 a0_3 a0_4 a0_5 a0_6 a0_7 a0_8 a0_9 pf0 pz0 qf0 qz0 af0 az0
      obtain ⟨p1_0, p1_1, p1_2, p1_3, p1_4, p1_5, p1_6, p1_7, p1_8, p1_9, pf1, pz1⟩ := HP1.out.all; obtain ⟨q1_0, q1_1, q1_2, q1_3, q1_4, q1_5, q1_6, q1_7, q1_8, q1_9, qf1, qz1⟩ := HQ1.out.all; obtain ⟨a1_0, a1_1, a1_2, a1_3, a1_4, a1_5, a1_6, a1_7, a1_8, a1_9, af1, az1⟩ := HA1.out.all
      go_upto_region 8 with (go_at_call 18; refine HPb1.out.mono ?_; rintro e w5 ⟨rfl, hk⟩)
      have HK2 := Lib.hid (HK1.out.nil hk)
      have HP2 := Lib.hid (HP1.out.keep hk (by simp))
      have HQ2 := Lib.hid (HQ1.out.keep hk (by simp))
      have HA2 := Lib.hid (HA1.out.keep hk (by simp))
      have HRt2 := HRt w5 HK2.out
      clear hk HPb1 HP1 HQ1 HA1 HK1 HRt p1_0 p1_1 p1_2 p1_3 p1_4 p1_5 p1_6 p1_7 p1_8 p1_9 q1_0 q1_1 q1_2 q1_3 q1_4 q1_5 q1_6 q1_7 q1_8 q1_9 a1_0 a1_1 a1_2 a1_3 a1_4 a1_5 a1_6 a1_7 a1_8 a1_9 pf1 pz1 qf1 qz1 af1 az1
      obtain ⟨p2_0, p2_1, p2_2, p2_3, p2_4, p2_5, p2_6, p2_7, p2_8, p2_9, pf2, pz2⟩ := HP2.out.all; obtain ⟨q2_0, q2_1, q2_2, q2_3, q2_4, q2_5, q2_6, q2_7, q2_8, q2_9, qf2, qz2⟩ := HQ2.out.all; obtain ⟨a2_0, a2_1, a2_2, a2_3, a2_4, a2_5, a2_6, a2_7, a2_8, a2_9, af2, az2⟩ := HA2.out.all
      cases RB
      all_goals
        go_upto_region 10 with (go_at_call 19; refine HRt2.out.mono ?_; rintro e w6 ⟨rfl, hk⟩)
        have HK0 := Lib.hid (HK2.out.nil hk)
        have HP0 := Lib.hid (HP2.out.keep hk (by simp))
        have HQ0 := Lib.hid (HQ2.out.keep hk (by simp))
        have HA0 := Lib.hid (HA2.out.keep hk (by simp))
        clear hk HP2 HQ2 HA2 HK2 HRt2 p2_0 p2_1 p2_2 p2_3 p2_4 p2_5 p2_6 p2_7 p2_8 p2_9 q2_0 q2_1 q2_2 q2_3 q2_4 q2_5 q2_6 q2_7 q2_8 q2_9 a2_0 a2_1 a2_2 a2_3 a2_4 a2_5 a2_6 a2_7 a2_8 a2_9 pf2 pz2 qf2 qz2 af2 az2
        obtain ⟨p0_0, p0_1, p0_2, p0_3, p0_4, p0_5, p0_6, p0_7, p0_8, p0_9, pf0, pz0⟩ := HP0.out.all; obtain ⟨q0_0, q0_1, q0_2, q0_3, q0_4, q0_5, q0_6, q0_7, q0_8, q0_9, qf0, qz0⟩ := HQ0.out.all; obtain ⟨a0_0, a0_1, a0_2, a0_3, a0_4, a0_5, a0_6, a0_7, a0_8, a0_9, af0, az0⟩ := HA0.out.all
        simp only [errB, Bool.false_eq_true, if_true, if_false] at HCk
        go_region_held3 (fun W => W.cell? ⟨w.heap.size, 0, none⟩ = some (.slice A1 n1 k1) ∧ W.cell? ⟨w.heap.size, 1, none⟩ = some (.slice A2 n2 k2) ∧ W.cell? ⟨w.heap.size, 2, none⟩ = some (.bool p.neg) ∧ W.cell? ⟨w.heap.size, 3, none⟩ = some (.slice A3 n3 k3) ∧ W.cell? ⟨w.heap.size, 4, none⟩ = some (.slice A4 n4 k4) ∧ W.cell? ⟨w.heap.size, 5, none⟩ = some (.int .i64 p.mi) ∧ W.cell? ⟨w.heap.size, 6, none⟩ = some (.int .i64 p.mf) ∧ W.cell? ⟨w.heap.size, 7, none⟩ = some (.int .i64 p.xf) ∧ W.cell? ⟨w.heap.size, 8, none⟩ = some (.int .i64 p.g) ∧ W.cell? ⟨w.heap.size, 9, none⟩ = some (.int .i64 p.g2) ∧ W.cell? ⟨w.heap.size + 1, 0, none⟩ = some (.slice B1 m1 j1) ∧ W.cell? ⟨w.heap.size + 1, 1, none⟩ = some (.slice B2 m2 j2) ∧ W.cell? ⟨w.heap.size + 1, 2, none⟩ = some (.bool q.neg) ∧ W.cell? ⟨w.heap.size + 1, 3, none⟩ = some (.slice B3 m3 j3) ∧ W.cell? ⟨w.heap.size + 1, 4, none⟩ = some (.slice B4 m4 j4) ∧ W.cell? ⟨w.heap.size + 1, 5, none⟩ = some (.int .i64 q.mi) ∧ W.cell? ⟨w.heap.size + 1, 6, none⟩ = some (.int .i64 q.mf) ∧ W.cell? ⟨w.heap.size + 1, 7, none⟩ = some (.int .i64 q.xf) ∧ W.cell? ⟨w.heap.size + 1, 8, none⟩ = some (.int .i64 q.g) ∧ W.cell? ⟨w.heap.size + 1, 9, none⟩ = some (.int .i64 q.g2) ∧ W.cell? ⟨bb, 0, none⟩ = some (.slice U1 p.pre.length c1) ∧ W.cell? ⟨bb, 1, none⟩ = some (.slice U2 p.suf.length c2) ∧ W.cell? ⟨bb, 2, none⟩ = some (.bool p.neg) ∧ W.cell? ⟨bb, 3, none⟩ = some (.slice U3 p.npre.length c3) ∧ W.cell? ⟨bb, 4, none⟩ = some (.slice U4 p.nsuf.length c4) ∧ W.cell? ⟨bb, 5, none⟩ = some (.int .i64 p.mi) ∧ W.cell? ⟨bb, 6, none⟩ = some (.int .i64 p.mf) ∧ W.cell? ⟨bb, 7, none⟩ = some (.int .i64 p.xf) ∧ W.cell? ⟨bb, 8, none⟩ = some (.int .i64 p.g) ∧ W.cell? ⟨bb, 9, none⟩ = some (.int .i64 p.g2)) (first | exact ⟨p0_0, p0_1, p0_2, p0_3, p0_4, p0_5, p0_6, p0_7, p0_8, p0_9, q0_0, q0_1, q0_2, q0_3, q0_4, q0_5, q0_6, q0_7, q0_8, q0_9, a0_0, a0_1, a0_2, a0_3, a0_4, a0_5, a0_6, a0_7, a0_8, a0_9⟩ | exact ⟨p1_0, p1_1, p1_2, p1_3, p1_4, p1_5, p1_6, p1_7, p1_8, p1_9, q1_0, q1_1, q1_2, q1_3, q1_4, q1_5, q1_6, q1_7, q1_8, q1_9, a1_0, a1_1, a1_2, a1_3, a1_4, a1_5, a1_6, a1_7, a1_8, a1_9⟩ | exact ⟨p2_0, p2_1, p2_2, p2_3, p2_4, p2_5, p2_6, p2_7, p2_8, p2_9, q2_0, q2_1, q2_2, q2_3, q2_4, q2_5, q2_6, q2_7, q2_8, q2_9, a2_0, a2_1, a2_2, a2_3, a2_4, a2_5, a2_6, a2_7, a2_8, a2_9⟩ | exact ⟨p3_0, p3_1, p3_2, p3_3, p3_4, p3_5, p3_6, p3_7, p3_8, p3_9, q3_0, q3_1, q3_2, q3_3, q3_4, q3_5, q3_6, q3_7, q3_8, q3_9, a3_0, a3_1, a3_2, a3_3, a3_4, a3_5, a3_6, a3_7, a3_8, a3_9⟩ | exact ⟨p4_0, p4_1, p4_2, p4_3, p4_4, p4_5, p4_6, p4_7, p4_8, p4_9, q4_0, q4_1, q4_2, q4_3, q4_4, q4_5, q4_6, q4_7, q4_8, q4_9, a4_0, a4_1, a4_2, a4_3, a4_4, a4_5, a4_6, a4_7, a4_8, a4_9⟩ | exact ⟨p5_0, p5_1, p5_2, p5_3, p5_4, p5_5, p5_6, p5_7, p5_8, p5_9, q5_0, q5_1, q5_2, q5_3, q5_4, q5_5, q5_6, q5_7, q5_8, q5_9, a5_0, a5_1, a5_2, a5_3, a5_4, a5_5, a5_6, a5_7, a5_8, a5_9⟩) (first | (go_at_call_of 21 (Value.agg #[.slice U1 p.pre.length c1, .slice U2 p.suf.length c2, .bool p.neg, .slice U3 p.npre.length c3, .slice U4 p.nsuf.length c4, .int .i64 p.mi, .int .i64 p.mf, .int .i64 p.xf, .int .i64 p.g, .int .i64 p.g2]); refine (HS4 _ (HK4.out)).out.mono ?_; rintro e w4' ⟨rfl, hk⟩; have HK5 := Lib.hid (Keep.nil (HK4.out) hk); have HP5 := Lib.hid (PatAt.keep (HP4.out) hk (by simp)); have HQ5 := Lib.hid (PatAt.keep (HQ4.out) hk (by simp)); have HA5 := Lib.hid (PatAt.keep (HA4.out) hk (by simp)); obtain ⟨p5_0, p5_1, p5_2, p5_3, p5_4, p5_5, p5_6, p5_7, p5_8, p5_9, pf5, pz5⟩ := HP5.out.all; obtain ⟨q5_0, q5_1, q5_2, q5_3, q5_4, q5_5, q5_6, q5_7, q5_8, q5_9, qf5, qz5⟩ := HQ5.out.all; obtain ⟨a5_0, a5_1, a5_2, a5_3, a5_4, a5_5, a5_6, a5_7, a5_8, a5_9, af5, az5⟩ := HA5.out.all; clear hk) | (go_at_call_of 13 (Value.agg #[.slice A1 n1 k1, .slice A2 n2 k2, .bool p.neg, .slice A3 n3 k3, .slice A4 n4 k4, .int .i64 p.mi, .int .i64 p.mf, .int .i64 p.xf, .int .i64 p.g, .int .i64 p.g2]); refine (HS3 _ (HK3.out)).out.mono ?_; rintro e w3' ⟨rfl, hk⟩; have HK4 := Lib.hid (Keep.nil (HK3.out) hk); have HP4 := Lib.hid (PatAt.keep (HP3.out) hk (by simp)); have HQ4 := Lib.hid (PatAt.keep (HQ3.out) hk (by simp)); have HA4 := Lib.hid (PatAt.keep (HA3.out) hk (by simp)); obtain ⟨p4_0, p4_1, p4_2, p4_3, p4_4, p4_5, p4_6, p4_7, p4_8, p4_9, pf4, pz4⟩ := HP4.out.all; obtain ⟨q4_0, q4_1, q4_2, q4_3, q4_4, q4_5, q4_6, q4_7, q4_8, q4_9, qf4, qz4⟩ := HQ4.out.all; obtain ⟨a4_0, a4_1, a4_2, a4_3, a4_4, a4_5, a4_6, a4_7, a4_8, a4_9, af4, az4⟩ := HA4.out.all; clear hk) | (go_at_call_of 21 (Value.agg #[.slice A1 n1 k1, .slice A2 n2 k2, .bool p.neg, .slice A3 n3 k3, .slice A4 n4 k4, .int .i64 p.mi, .int .i64 p.mf, .int .i64 p.xf, .int .i64 p.g, .int .i64 p.g2]); refine (HS2 _ (HK2.out)).out.mono ?_; rintro e w2' ⟨rfl, hk⟩; have HK3 := Lib.hid (Keep.nil (HK2.out) hk); have HP3 := Lib.hid (PatAt.keep (HP2.out) hk (by simp)); have HQ3 := Lib.hid (PatAt.keep (HQ2.out) hk (by simp)); have HA3 := Lib.hid (PatAt.keep (HA2.out) hk (by simp)); obtain ⟨p3_0, p3_1, p3_2, p3_3, p3_4, p3_5, p3_6, p3_7, p3_8, p3_9, pf3, pz3⟩ := HP3.out.all; obtain ⟨q3_0, q3_1, q3_2, q3_3, q3_4, q3_5, q3_6, q3_7, q3_8, q3_9, qf3, qz3⟩ := HQ3.out.all; obtain ⟨a3_0, a3_1, a3_2, a3_3, a3_4, a3_5, a3_6, a3_7, a3_8, a3_9, af3, az3⟩ := HA3.out.all; clear hk) | (go_at_call_of 13 (Value.agg #[.slice U1 p.pre.length c1, .slice U2 p.suf.length c2, .bool p.neg, .slice U3 p.npre.length c3, .slice U4 p.nsuf.length c4, .int .i64 p.mi, .int .i64 p.mf, .int .i64 p.xf, .int .i64 p.g, .int .i64 p.g2]); refine (HS1 _ (HK1.out)).out.mono ?_; rintro e w1' ⟨rfl, hk⟩; have HK2 := Lib.hid (Keep.nil (HK1.out) hk); have HP2 := Lib.hid (PatAt.keep (HP1.out) hk (by simp)); have HQ2 := Lib.hid (PatAt.keep (HQ1.out) hk (by simp)); have HA2 := Lib.hid (PatAt.keep (HA1.out) hk (by simp)); obtain ⟨p2_0, p2_1, p2_2, p2_3, p2_4, p2_5, p2_6, p2_7, p2_8, p2_9, pf2, pz2⟩ := HP2.out.all; obtain ⟨q2_0, q2_1, q2_2, q2_3, q2_4, q2_5, q2_6, q2_7, q2_8, q2_9, qf2, qz2⟩ := HQ2.out.all; obtain ⟨a2_0, a2_1, a2_2, a2_3, a2_4, a2_5, a2_6, a2_7, a2_8, a2_9, af2, az2⟩ := HA2.out.all; clear hk) | (go_at_call_of 20 (Value.agg #[.slice U1 p.pre.length c1, .slice U2 p.suf.length c2, .bool p.neg, .slice U3 p.npre.length c3, .slice U4 p.nsuf.length c4, .int .i64 p.mi, .int .i64 p.mf, .int .i64 p.xf, .int .i64 p.g, .int .i64 p.g2]); refine (HCk _ (HK0.out.drew)).out.mono ?_; rintro e w0' ⟨rfl, hk⟩; have HK1 := Lib.hid (Keep.nil (HK0.out.drew) hk); have HP1 := Lib.hid (PatAt.keep (HP0.out.drewN 1) hk (by simp)); have HQ1 := Lib.hid (PatAt.keep (HQ0.out.drewN 1) hk (by simp)); have HA1 := Lib.hid (PatAt.keep (HA0.out.drewN 1) hk (by simp)); obtain ⟨p1_0, p1_1, p1_2, p1_3, p1_4, p1_5, p1_6, p1_7, p1_8, p1_9, pf1, pz1⟩ := HP1.out.all; obtain ⟨q1_0, q1_1, q1_2, q1_3, q1_4, q1_5, q1_6, q1_7, q1_8, q1_9, qf1, qz1⟩ := HQ1.out.all; obtain ⟨a1_0, a1_1, a1_2, a1_3, a1_4, a1_5, a1_6, a1_7, a1_8, a1_9, af1, az1⟩ := HA1.out.all; clear hk))
        all_goals
          go_wp2
          go_ret
          exact ⟨rfl, HB.out.nil HK5.out⟩
end Go.Proofs.YtkkglaglnfebjaaDoor
