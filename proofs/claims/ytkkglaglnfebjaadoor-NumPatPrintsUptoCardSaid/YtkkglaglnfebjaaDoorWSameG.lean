/- Walks: the law's same and numpat.Same, for any two patterns. -/
import Derived.Test.YtkkglaglnfebjaaDoorWEq
namespace Go.Proofs.YtkkglaglnfebjaaDoor
open Go.RowKit Go.IntWalk

set_option maxRecDepth 100000 in
theorem arr_eql (a b c d e a' b' c' d' e' : Int) (r : Bool) (h : decide (a = a' ∧ b = b' ∧ c = c' ∧ d = d' ∧ e = e') = r) (W : World) : (binOp .eql 103 (.agg #[.int .i64 a, .int .i64 b, .int .i64 c, .int .i64 d, .int .i64 e]) (.agg #[.int .i64 a', .int .i64 b', .int .i64 c', .int .i64 d', .int .i64 e'])).run Tryd.prog W = .ok (.bool r) W := by
  subst h
  rw [run_eql_struct, show (10000 : Nat) = 9999 + 1 from rfl, Op.equalIn]
  simp only [Sem.run_bind, run_underlying Tryd.underlying103, Result.andThen_ok]
  simp only [Std.Legacy.Range.forIn_eq_forIn_range', Std.Legacy.Range.size, Nat.sub_zero, Nat.add_sub_cancel, Nat.div_one, List.range'_succ, List.range'_zero, List.forIn_cons, List.forIn_nil]
  go_simp
  by_cases h1 : a = a'
  · by_cases h2 : b = b'
    · by_cases h3 : c = c'
      · by_cases h4 : d = d'
        · by_cases h5 : e = e'
          · simp [h1, h2, h3, h4, h5]
          · simp [h1, h2, h3, h4, h5]
        · simp [h1, h2, h3, h4]
      · simp [h1, h2, h3]
    · simp [h1, h2]
  · simp [h1]
def eqN (p q : PatD) : Bool := p.neg == q.neg && p.mi == q.mi && p.mf == q.mf && p.xf == q.xf && p.g == q.g && p.g2 == q.g2
def eqP (p q : PatD) : Bool := eqL p.pre q.pre && eqL p.suf q.suf && eqL p.npre q.npre && eqL p.nsuf q.nsuf
def sameB (p q : PatD) : Bool := eqN p q && eqP p q
theorem sameB_self (p : PatD) : sameB p p = true := by simp [sameB, eqN, eqP, eqL_self]


set_option maxRecDepth 100000 in
set_option maxHeartbeats 2000000 in
theorem rsame_any (w : World) (v1 v2 v3 v4 u1 u2 u3 u4 : Value) (p q : PatD) (hp : RdP w v1 v2 v3 v4 p) (hq : RdP w u1 u2 u3 u4 q) :
    Calls Tryd.prog 13 #[patV v1 v2 v3 v4 p, patV u1 u2 u3 u4 q] w fun e w' => e = .returned (.bool (sameB p q)) ∧ Keep [] w w' := by
  have HF1 : ∀ W, Keep [] w W → Hid (Calls Tryd.prog 23 #[v1, u1] W fun e w' => e = .returned (.bool (eqL p.pre q.pre)) ∧ Keep [] W w') := fun W hk => raffixes_any W _ _ _ _ (hp.pre.keep_nil hk) (hq.pre.keep_nil hk)
  have HF2 : ∀ W, Keep [] w W → Hid (Calls Tryd.prog 23 #[v2, u2] W fun e w' => e = .returned (.bool (eqL p.suf q.suf)) ∧ Keep [] W w') := fun W hk => raffixes_any W _ _ _ _ (hp.suf.keep_nil hk) (hq.suf.keep_nil hk)
  have HF3 : ∀ W, Keep [] w W → Hid (Calls Tryd.prog 23 #[v3, u3] W fun e w' => e = .returned (.bool (eqL p.npre q.npre)) ∧ Keep [] W w') := fun W hk => raffixes_any W _ _ _ _ (hp.npre.keep_nil hk) (hq.npre.keep_nil hk)
  have HF4 : ∀ W, Keep [] w W → Hid (Calls Tryd.prog 23 #[v4, u4] W fun e w' => e = .returned (.bool (eqL p.nsuf q.nsuf)) ∧ Keep [] W w') := fun W hk => raffixes_any W _ _ _ _ (hp.nsuf.keep_nil hk) (hq.nsuf.keep_nil hk)
  obtain ⟨B, hB⟩ : ∃ B, sameB p q = B := ⟨_, rfl⟩
  have HS := Lib.hid hB
  have HB0 : Hid (PatAt ((w.alloc (boxP v1 v2 v3 v4 p)).alloc (boxP u1 u2 u3 u4 q)) w.heap.size v1 v2 v3 v4 p) := (PatAt.new w v1 v2 v3 v4 p).alloc _
  have HC0 : Hid (PatAt ((w.alloc (boxP v1 v2 v3 v4 p)).alloc (boxP u1 u2 u3 u4 q)) (w.heap.size + 1) u1 u2 u3 u4 q) := Blk.new' _ _ _ _ (by simp)
  have HK0 : Hid (Keep [] w ((w.alloc (boxP v1 v2 v3 v4 p)).alloc (boxP u1 u2 u3 u4 q))) := ((Keep.refl _ _).alloc _).alloc _
  obtain ⟨A1, k1, rfl, -⟩ := hp.pre
  obtain ⟨A2, k2, rfl, -⟩ := hp.suf
  obtain ⟨A3, k3, rfl, -⟩ := hp.npre
  obtain ⟨A4, k4, rfl, -⟩ := hp.nsuf
  obtain ⟨C1, j1, rfl, -⟩ := hq.pre
  obtain ⟨C2, j2, rfl, -⟩ := hq.suf
  obtain ⟨C3, j3, rfl, -⟩ := hq.npre
  obtain ⟨C4, j4, rfl, -⟩ := hq.nsuf
  clear hp hq
  rw [hB]
  obtain ⟨lpre, lsuf, neg, lnpre, lnsuf, mi, mf, xf, g, g2⟩ := p
  obtain ⟨rpre, rsuf, neg', rnpre, rnsuf, mi', mf', xf', g', g2'⟩ := q
  unfold boxP at HB0 HC0 HK0
  simp only [patV] at *
  clear hB
  by_cases hneg : neg = neg'
  rotate_left
  · have HX : Hid (B = false) := by
      have : (neg == neg') = false := by rw [beq_eq_false_iff_ne]; exact hneg
      unfold Hid; rw [← HS.out, sameB, eqN]; simp [this]
    have hb : (neg != neg') = true := bne_iff_ne.2 hneg
    go_enter Tryd.func13, Tryd.ntmps13
    go_wp2
    go_ret
    exact ⟨by rw [HX.out]; rfl, HK0.out⟩
  subst hneg
  by_cases hmi : mi = mi'
  rotate_left
  · have HX : Hid (B = false) := by
      have : (mi == mi') = false := by rw [beq_eq_false_iff_ne]; exact hmi
      unfold Hid; rw [← HS.out, sameB, eqN]; simp [this]
    have hb : (mi != mi') = true := bne_iff_ne.2 hmi
    go_enter Tryd.func13, Tryd.ntmps13
    go_wp2
    go_ret
    exact ⟨by rw [HX.out]; rfl, HK0.out⟩
  subst hmi
  by_cases hmf : mf = mf'
  rotate_left
  · have HX : Hid (B = false) := by
      have : (mf == mf') = false := by rw [beq_eq_false_iff_ne]; exact hmf
      unfold Hid; rw [← HS.out, sameB, eqN]; simp [this]
    have hb : (mf != mf') = true := bne_iff_ne.2 hmf
    go_enter Tryd.func13, Tryd.ntmps13
    go_wp2
    go_ret
    exact ⟨by rw [HX.out]; rfl, HK0.out⟩
  subst hmf
  by_cases hxf : xf = xf'
  rotate_left
  · have HX : Hid (B = false) := by
      have : (xf == xf') = false := by rw [beq_eq_false_iff_ne]; exact hxf
      unfold Hid; rw [← HS.out, sameB, eqN]; simp [this]
    have hb : (xf != xf') = true := bne_iff_ne.2 hxf
    go_enter Tryd.func13, Tryd.ntmps13
    go_wp2
    go_ret
    exact ⟨by rw [HX.out]; rfl, HK0.out⟩
  subst hxf
  by_cases hg : g = g'
  rotate_left
  · have HX : Hid (B = false) := by
      have : (g == g') = false := by rw [beq_eq_false_iff_ne]; exact hg
      unfold Hid; rw [← HS.out, sameB, eqN]; simp [this]
    have hb : (g != g') = true := bne_iff_ne.2 hg
    go_enter Tryd.func13, Tryd.ntmps13
    go_wp2
    go_ret
    exact ⟨by rw [HX.out]; rfl, HK0.out⟩
  subst hg
  by_cases hg2 : g2 = g2'
  rotate_left
  · have HX : Hid (B = false) := by
      have : (g2 == g2') = false := by rw [beq_eq_false_iff_ne]; exact hg2
      unfold Hid; rw [← HS.out, sameB, eqN]; simp [this]
    have hb : (g2 != g2') = true := bne_iff_ne.2 hg2
    go_enter Tryd.func13, Tryd.ntmps13
    go_wp2
    go_ret
    exact ⟨by rw [HX.out]; rfl, HK0.out⟩
  subst hg2
  have EQN : Hid (∀ a b c d a' b' c' d', eqN ⟨a, b, neg, c, d, mi, mf, xf, g, g2⟩ ⟨a', b', neg, c', d', mi, mf, xf, g, g2⟩ = true) := fun _ _ _ _ _ _ _ _ => by simp [eqN]
  go_enter Tryd.func13, Tryd.ntmps13
  cases hpre : eqL lpre rpre
  · have HX : Hid (B = false) := by unfold Hid; rw [← HS.out]; simp [sameB, eqN, eqP, hpre]
    have hF := HF1 _ HK0.out
    rw [hpre] at hF
    go_wp2_with fail
    refine hF.out.mono ?_
    rintro e w1 ⟨rfl, hk⟩
    have HK1 := Lib.hid (HK0.out.nil hk)
    have HB1 := Lib.hid (HB0.out.keep hk (by simp))
    have HC1 := Lib.hid (HC0.out.keep hk (by simp))
    clear hk hF
    obtain ⟨p0, p1, p2, p3, p4, p5, p6, p7, p8, p9, pf, pz⟩ := HB1.out.all
    obtain ⟨q0, q1, q2, q3, q4, q5, q6, q7, q8, q9, qf, qz⟩ := HC1.out.all
    go_wp2
    go_ret
    exact ⟨by rw [HX.out]; rfl, HK1.out⟩
  · have hF := HF1 _ HK0.out
    rw [hpre] at hF
    go_wp2_with fail
    refine hF.out.mono ?_
    rintro e w1 ⟨rfl, hk⟩
    have HK1 := Lib.hid (HK0.out.nil hk)
    have HB1 := Lib.hid (HB0.out.keep hk (by simp))
    have HC1 := Lib.hid (HC0.out.keep hk (by simp))
    clear hk hF
    obtain ⟨p0, p1, p2, p3, p4, p5, p6, p7, p8, p9, pf, pz⟩ := HB1.out.all
    obtain ⟨q0, q1, q2, q3, q4, q5, q6, q7, q8, q9, qf, qz⟩ := HC1.out.all
    cases hsuf : eqL lsuf rsuf
    · have HX : Hid (B = false) := by unfold Hid; rw [← HS.out]; simp [sameB, eqN, eqP, hsuf]
      have hF := HF2 _ HK1.out
      rw [hsuf] at hF
      go_wp2_with fail
      refine hF.out.mono ?_
      rintro e w2 ⟨rfl, hk⟩
      have HK2 := Lib.hid (HK1.out.nil hk)
      have HB2 := Lib.hid (HB1.out.keep hk (by simp))
      have HC2 := Lib.hid (HC1.out.keep hk (by simp))
      clear hk hF p0 p1 p2 p3 p4 p5 p6 p7 p8 p9 pf pz q0 q1 q2 q3 q4 q5 q6 q7 q8 q9 qf qz
      obtain ⟨p0, p1, p2, p3, p4, p5, p6, p7, p8, p9, pf, pz⟩ := HB2.out.all
      obtain ⟨q0, q1, q2, q3, q4, q5, q6, q7, q8, q9, qf, qz⟩ := HC2.out.all
      go_wp2
      go_ret
      exact ⟨by rw [HX.out]; rfl, HK2.out⟩
    · have hF := HF2 _ HK1.out
      rw [hsuf] at hF
      go_wp2_with fail
      refine hF.out.mono ?_
      rintro e w2 ⟨rfl, hk⟩
      have HK2 := Lib.hid (HK1.out.nil hk)
      have HB2 := Lib.hid (HB1.out.keep hk (by simp))
      have HC2 := Lib.hid (HC1.out.keep hk (by simp))
      clear hk hF p0 p1 p2 p3 p4 p5 p6 p7 p8 p9 pf pz q0 q1 q2 q3 q4 q5 q6 q7 q8 q9 qf qz
      obtain ⟨p0, p1, p2, p3, p4, p5, p6, p7, p8, p9, pf, pz⟩ := HB2.out.all
      obtain ⟨q0, q1, q2, q3, q4, q5, q6, q7, q8, q9, qf, qz⟩ := HC2.out.all
      cases hnpre : eqL lnpre rnpre
      · have HX : Hid (B = false) := by unfold Hid; rw [← HS.out]; simp [sameB, eqN, eqP, hnpre]
        have hF := HF3 _ HK2.out
        rw [hnpre] at hF
        go_wp2_with fail
        refine hF.out.mono ?_
        rintro e w3 ⟨rfl, hk⟩
        have HK3 := Lib.hid (HK2.out.nil hk)
        have HB3 := Lib.hid (HB2.out.keep hk (by simp))
        have HC3 := Lib.hid (HC2.out.keep hk (by simp))
        clear hk hF p0 p1 p2 p3 p4 p5 p6 p7 p8 p9 pf pz q0 q1 q2 q3 q4 q5 q6 q7 q8 q9 qf qz
        obtain ⟨p0, p1, p2, p3, p4, p5, p6, p7, p8, p9, pf, pz⟩ := HB3.out.all
        obtain ⟨q0, q1, q2, q3, q4, q5, q6, q7, q8, q9, qf, qz⟩ := HC3.out.all
        go_wp2
        go_ret
        exact ⟨by rw [HX.out]; rfl, HK3.out⟩
      · have hF := HF3 _ HK2.out
        rw [hnpre] at hF
        go_wp2_with fail
        refine hF.out.mono ?_
        rintro e w3 ⟨rfl, hk⟩
        have HK3 := Lib.hid (HK2.out.nil hk)
        have HB3 := Lib.hid (HB2.out.keep hk (by simp))
        have HC3 := Lib.hid (HC2.out.keep hk (by simp))
        clear hk hF p0 p1 p2 p3 p4 p5 p6 p7 p8 p9 pf pz q0 q1 q2 q3 q4 q5 q6 q7 q8 q9 qf qz
        obtain ⟨p0, p1, p2, p3, p4, p5, p6, p7, p8, p9, pf, pz⟩ := HB3.out.all
        obtain ⟨q0, q1, q2, q3, q4, q5, q6, q7, q8, q9, qf, qz⟩ := HC3.out.all
        cases hnsuf : eqL lnsuf rnsuf
        · have HX : Hid (B = false) := by unfold Hid; rw [← HS.out]; simp [sameB, eqN, eqP, hnsuf]
          have hF := HF4 _ HK3.out
          rw [hnsuf] at hF
          go_wp2_with fail
          refine hF.out.mono ?_
          rintro e w4 ⟨rfl, hk⟩
          have HK4 := Lib.hid (HK3.out.nil hk)
          have HB4 := Lib.hid (HB3.out.keep hk (by simp))
          have HC4 := Lib.hid (HC3.out.keep hk (by simp))
          clear hk hF p0 p1 p2 p3 p4 p5 p6 p7 p8 p9 pf pz q0 q1 q2 q3 q4 q5 q6 q7 q8 q9 qf qz
          obtain ⟨p0, p1, p2, p3, p4, p5, p6, p7, p8, p9, pf, pz⟩ := HB4.out.all
          obtain ⟨q0, q1, q2, q3, q4, q5, q6, q7, q8, q9, qf, qz⟩ := HC4.out.all
          go_wp2
          go_ret
          exact ⟨by rw [HX.out]; rfl, HK4.out⟩
        · have hF := HF4 _ HK3.out
          rw [hnsuf] at hF
          go_wp2_with fail
          refine hF.out.mono ?_
          rintro e w4 ⟨rfl, hk⟩
          have HK4 := Lib.hid (HK3.out.nil hk)
          have HB4 := Lib.hid (HB3.out.keep hk (by simp))
          have HC4 := Lib.hid (HC3.out.keep hk (by simp))
          clear hk hF p0 p1 p2 p3 p4 p5 p6 p7 p8 p9 pf pz q0 q1 q2 q3 q4 q5 q6 q7 q8 q9 qf qz
          obtain ⟨p0, p1, p2, p3, p4, p5, p6, p7, p8, p9, pf, pz⟩ := HB4.out.all
          obtain ⟨q0, q1, q2, q3, q4, q5, q6, q7, q8, q9, qf, qz⟩ := HC4.out.all
          have HX : Hid (B = true) := by unfold Hid; rw [← HS.out]; rw [sameB, EQN.out]; simp [eqP, hpre, hsuf, hnpre, hnsuf]
          go_wp2
          go_ret
          exact ⟨by rw [HX.out]; rfl, HK4.out⟩


set_option maxRecDepth 100000 in
set_option maxHeartbeats 2000000 in
theorem psame_any (w : World) (v1 v2 v3 v4 u1 u2 u3 u4 : Value) (p q : PatD) (hp : RdP w v1 v2 v3 v4 p) (hq : RdP w u1 u2 u3 u4 q) :
    Calls Tryd.prog 21 #[patV v1 v2 v3 v4 p, patV u1 u2 u3 u4 q] w fun e w' => e = .returned (.bool (sameB p q)) ∧ Keep [] w w' := by
  have HF1 : ∀ W, Keep [] w W → Hid (Calls Tryd.prog 56 #[v1, u1] W fun e w' => e = .returned (.bool (eqL p.pre q.pre)) ∧ Keep [] W w') := fun W hk => sequal_any W _ _ _ _ (hp.pre.keep_nil hk) (hq.pre.keep_nil hk)
  have HF2 : ∀ W, Keep [] w W → Hid (Calls Tryd.prog 56 #[v2, u2] W fun e w' => e = .returned (.bool (eqL p.suf q.suf)) ∧ Keep [] W w') := fun W hk => sequal_any W _ _ _ _ (hp.suf.keep_nil hk) (hq.suf.keep_nil hk)
  have HF3 : ∀ W, Keep [] w W → Hid (Calls Tryd.prog 56 #[v3, u3] W fun e w' => e = .returned (.bool (eqL p.npre q.npre)) ∧ Keep [] W w') := fun W hk => sequal_any W _ _ _ _ (hp.npre.keep_nil hk) (hq.npre.keep_nil hk)
  have HF4 : ∀ W, Keep [] w W → Hid (Calls Tryd.prog 56 #[v4, u4] W fun e w' => e = .returned (.bool (eqL p.nsuf q.nsuf)) ∧ Keep [] W w') := fun W hk => sequal_any W _ _ _ _ (hp.nsuf.keep_nil hk) (hq.nsuf.keep_nil hk)
  obtain ⟨B, hB⟩ : ∃ B, sameB p q = B := ⟨_, rfl⟩
  have HS := Lib.hid hB
  have HB0 : Hid (PatAt ((w.alloc (boxP v1 v2 v3 v4 p)).alloc (boxP u1 u2 u3 u4 q)) w.heap.size v1 v2 v3 v4 p) := (PatAt.new w v1 v2 v3 v4 p).alloc _
  have HC0 : Hid (PatAt ((w.alloc (boxP v1 v2 v3 v4 p)).alloc (boxP u1 u2 u3 u4 q)) (w.heap.size + 1) u1 u2 u3 u4 q) := Blk.new' _ _ _ _ (by simp)
  have HK0 : Hid (Keep [] w ((w.alloc (boxP v1 v2 v3 v4 p)).alloc (boxP u1 u2 u3 u4 q))) := ((Keep.refl _ _).alloc _).alloc _
  obtain ⟨A1, k1, rfl, -⟩ := hp.pre
  obtain ⟨A2, k2, rfl, -⟩ := hp.suf
  obtain ⟨A3, k3, rfl, -⟩ := hp.npre
  obtain ⟨A4, k4, rfl, -⟩ := hp.nsuf
  obtain ⟨C1, j1, rfl, -⟩ := hq.pre
  obtain ⟨C2, j2, rfl, -⟩ := hq.suf
  obtain ⟨C3, j3, rfl, -⟩ := hq.npre
  obtain ⟨C4, j4, rfl, -⟩ := hq.nsuf
  clear hp hq
  rw [hB]
  obtain ⟨lpre, lsuf, neg, lnpre, lnsuf, mi, mf, xf, g, g2⟩ := p
  obtain ⟨rpre, rsuf, neg', rnpre, rnsuf, mi', mf', xf', g', g2'⟩ := q
  unfold boxP at HB0 HC0 HK0
  simp only [patV] at *
  clear hB
  go_enter Tryd.func21, Tryd.ntmps21
  cases hpre : eqL lpre rpre
  · have HX : Hid (B = false) := by unfold Hid; rw [← HS.out]; simp [sameB, eqN, eqP, hpre]
    have hF := HF1 _ HK0.out
    rw [hpre] at hF
    go_wp2_with fail
    refine hF.out.mono ?_
    rintro e w1 ⟨rfl, hk⟩
    have HK1 := Lib.hid (HK0.out.nil hk)
    have HB1 := Lib.hid (HB0.out.keep hk (by simp))
    have HC1 := Lib.hid (HC0.out.keep hk (by simp))
    clear hk hF
    obtain ⟨p0, p1, p2, p3, p4, p5, p6, p7, p8, p9, pf, pz⟩ := HB1.out.all
    obtain ⟨q0, q1, q2, q3, q4, q5, q6, q7, q8, q9, qf, qz⟩ := HC1.out.all
    go_wp2
    go_ret
    exact ⟨by rw [HX.out]; rfl, HK1.out⟩
  · have hF := HF1 _ HK0.out
    rw [hpre] at hF
    go_wp2_with fail
    refine hF.out.mono ?_
    rintro e w1 ⟨rfl, hk⟩
    have HK1 := Lib.hid (HK0.out.nil hk)
    have HB1 := Lib.hid (HB0.out.keep hk (by simp))
    have HC1 := Lib.hid (HC0.out.keep hk (by simp))
    clear hk hF
    obtain ⟨p0, p1, p2, p3, p4, p5, p6, p7, p8, p9, pf, pz⟩ := HB1.out.all
    obtain ⟨q0, q1, q2, q3, q4, q5, q6, q7, q8, q9, qf, qz⟩ := HC1.out.all
    cases hsuf : eqL lsuf rsuf
    · have HX : Hid (B = false) := by unfold Hid; rw [← HS.out]; simp [sameB, eqN, eqP, hsuf]
      have hF := HF2 _ HK1.out
      rw [hsuf] at hF
      go_wp2_with fail
      refine hF.out.mono ?_
      rintro e w2 ⟨rfl, hk⟩
      have HK2 := Lib.hid (HK1.out.nil hk)
      have HB2 := Lib.hid (HB1.out.keep hk (by simp))
      have HC2 := Lib.hid (HC1.out.keep hk (by simp))
      clear hk hF p0 p1 p2 p3 p4 p5 p6 p7 p8 p9 pf pz q0 q1 q2 q3 q4 q5 q6 q7 q8 q9 qf qz
      obtain ⟨p0, p1, p2, p3, p4, p5, p6, p7, p8, p9, pf, pz⟩ := HB2.out.all
      obtain ⟨q0, q1, q2, q3, q4, q5, q6, q7, q8, q9, qf, qz⟩ := HC2.out.all
      go_wp2
      go_ret
      exact ⟨by rw [HX.out]; rfl, HK2.out⟩
    · have hF := HF2 _ HK1.out
      rw [hsuf] at hF
      go_wp2_with fail
      refine hF.out.mono ?_
      rintro e w2 ⟨rfl, hk⟩
      have HK2 := Lib.hid (HK1.out.nil hk)
      have HB2 := Lib.hid (HB1.out.keep hk (by simp))
      have HC2 := Lib.hid (HC1.out.keep hk (by simp))
      clear hk hF p0 p1 p2 p3 p4 p5 p6 p7 p8 p9 pf pz q0 q1 q2 q3 q4 q5 q6 q7 q8 q9 qf qz
      obtain ⟨p0, p1, p2, p3, p4, p5, p6, p7, p8, p9, pf, pz⟩ := HB2.out.all
      obtain ⟨q0, q1, q2, q3, q4, q5, q6, q7, q8, q9, qf, qz⟩ := HC2.out.all
      cases hnpre : eqL lnpre rnpre
      · have HX : Hid (B = false) := by unfold Hid; rw [← HS.out]; simp [sameB, eqN, eqP, hnpre]
        have hF := HF3 _ HK2.out
        rw [hnpre] at hF
        go_wp2_with fail
        refine hF.out.mono ?_
        rintro e w3 ⟨rfl, hk⟩
        have HK3 := Lib.hid (HK2.out.nil hk)
        have HB3 := Lib.hid (HB2.out.keep hk (by simp))
        have HC3 := Lib.hid (HC2.out.keep hk (by simp))
        clear hk hF p0 p1 p2 p3 p4 p5 p6 p7 p8 p9 pf pz q0 q1 q2 q3 q4 q5 q6 q7 q8 q9 qf qz
        obtain ⟨p0, p1, p2, p3, p4, p5, p6, p7, p8, p9, pf, pz⟩ := HB3.out.all
        obtain ⟨q0, q1, q2, q3, q4, q5, q6, q7, q8, q9, qf, qz⟩ := HC3.out.all
        go_wp2
        go_ret
        exact ⟨by rw [HX.out]; rfl, HK3.out⟩
      · have hF := HF3 _ HK2.out
        rw [hnpre] at hF
        go_wp2_with fail
        refine hF.out.mono ?_
        rintro e w3 ⟨rfl, hk⟩
        have HK3 := Lib.hid (HK2.out.nil hk)
        have HB3 := Lib.hid (HB2.out.keep hk (by simp))
        have HC3 := Lib.hid (HC2.out.keep hk (by simp))
        clear hk hF p0 p1 p2 p3 p4 p5 p6 p7 p8 p9 pf pz q0 q1 q2 q3 q4 q5 q6 q7 q8 q9 qf qz
        obtain ⟨p0, p1, p2, p3, p4, p5, p6, p7, p8, p9, pf, pz⟩ := HB3.out.all
        obtain ⟨q0, q1, q2, q3, q4, q5, q6, q7, q8, q9, qf, qz⟩ := HC3.out.all
        cases hnsuf : eqL lnsuf rnsuf
        · have HX : Hid (B = false) := by unfold Hid; rw [← HS.out]; simp [sameB, eqN, eqP, hnsuf]
          have hF := HF4 _ HK3.out
          rw [hnsuf] at hF
          go_wp2_with fail
          refine hF.out.mono ?_
          rintro e w4 ⟨rfl, hk⟩
          have HK4 := Lib.hid (HK3.out.nil hk)
          have HB4 := Lib.hid (HB3.out.keep hk (by simp))
          have HC4 := Lib.hid (HC3.out.keep hk (by simp))
          clear hk hF p0 p1 p2 p3 p4 p5 p6 p7 p8 p9 pf pz q0 q1 q2 q3 q4 q5 q6 q7 q8 q9 qf qz
          obtain ⟨p0, p1, p2, p3, p4, p5, p6, p7, p8, p9, pf, pz⟩ := HB4.out.all
          obtain ⟨q0, q1, q2, q3, q4, q5, q6, q7, q8, q9, qf, qz⟩ := HC4.out.all
          go_wp2
          go_ret
          exact ⟨by rw [HX.out]; rfl, HK4.out⟩
        · have hF := HF4 _ HK3.out
          rw [hnsuf] at hF
          go_wp2_with fail
          refine hF.out.mono ?_
          rintro e w4 ⟨rfl, hk⟩
          have HK4 := Lib.hid (HK3.out.nil hk)
          have HB4 := Lib.hid (HB3.out.keep hk (by simp))
          have HC4 := Lib.hid (HC3.out.keep hk (by simp))
          clear hk hF p0 p1 p2 p3 p4 p5 p6 p7 p8 p9 pf pz q0 q1 q2 q3 q4 q5 q6 q7 q8 q9 qf qz
          obtain ⟨p0, p1, p2, p3, p4, p5, p6, p7, p8, p9, pf, pz⟩ := HB4.out.all
          obtain ⟨q0, q1, q2, q3, q4, q5, q6, q7, q8, q9, qf, qz⟩ := HC4.out.all
          have HL : Hid (∀ a b, sameB ⟨lpre, lsuf, a, lnpre, lnsuf, mi, mf, xf, g, g2⟩ ⟨rpre, rsuf, b, rnpre, rnsuf, mi', mf', xf', g', g2'⟩ = (a == b && decide (mi = mi' ∧ mf = mf' ∧ xf = xf' ∧ g = g' ∧ g2 = g2'))) := fun a b => by simp [sameB, eqN, eqP, hpre, hsuf, hnpre, hnsuf, Bool.and_assoc]; rfl
          rw [HL.out] at HS
          clear HL HF1 HF2 HF3 HF4
          by_cases hneg : neg = neg'
          · subst hneg
            cases hr : decide (mi = mi' ∧ mf = mf' ∧ xf = xf' ∧ g = g' ∧ g2 = g2')
            · have HX : Hid (B = false) := by unfold Hid; rw [← HS.out, hr, Bool.and_false]
              have hN := arr_eql _ _ _ _ _ _ _ _ _ _ _ hr
              clear hr HS
              go_wp2
              go_ret
              exact ⟨by rw [HX.out]; rfl, HK4.out⟩
            · have HX : Hid (B = true) := by unfold Hid; rw [← HS.out, hr, Bool.and_true, beq_self_eq_true]
              have hN := arr_eql _ _ _ _ _ _ _ _ _ _ _ hr
              clear hr HS
              go_wp2
              go_ret
              exact ⟨by rw [HX.out]; rfl, HK4.out⟩
          · have HX : Hid (B = false) := by unfold Hid; rw [← HS.out, beq_eq_false_iff_ne.2 hneg, Bool.false_and]
            have hb : (neg == neg') = false := beq_eq_false_iff_ne.2 hneg
            clear HS
            go_wp2
            go_ret
            exact ⟨by rw [HX.out]; rfl, HK4.out⟩

end Go.Proofs.YtkkglaglnfebjaaDoor
