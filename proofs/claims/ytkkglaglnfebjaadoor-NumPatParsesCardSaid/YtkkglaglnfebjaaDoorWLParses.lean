/- Walks: the law NumPatParses. -/
import Derived.Test.YtkkglaglnfebjaaDoorWRPar
import Derived.Test.YtkkglaglnfebjaaDoorWSpoil
namespace Go.Proofs.YtkkglaglnfebjaaDoor
open Go.RowKit Go.IntWalk

/-- What both readers hand back, as a pattern and a spot. -/
def patR : Except (Int × Int) PRes → PatD
  | .ok r => patOf r
  | .error _ => ⟨[], [], false, [], [], 0, 0, 0, 0, 0⟩
def spotR : Except (Int × Int) PRes → Int × Int
  | .ok _ => (0, 0)
  | .error y => y
theorem RPPost.out {w w' : World} {R : Except (Int × Int) PRes} {x : Ending} (h : RPPost w R x w') :
    ∃ v1 v2 v3 v4, x = .returned (.tuple #[patV v1 v2 v3 v4 (patR R), .agg #[.int .i64 (spotR R).1, .int .i64 (spotR R).2]]) ∧ RdP w' v1 v2 v3 v4 (patR R) ∧ Keep [] w w' := by
  cases R with
  | ok r => exact h
  | error y => exact ⟨_, _, _, _, h.1, ⟨RdA.nil _, RdA.nil _, RdA.nil _, RdA.nil _⟩, h.2⟩
theorem SpOK.nil (B : Nat) (w : World) : SpOK B w none 0 0 := ⟨Nat.le_refl _, by omega, fun _ => rfl, fun a ha => by cases ha⟩
theorem PPost.out {w w' : World} {R : Except (Int × Int) PRes} {x : Ending} (h : PPost w R x w') :
    ∃ A1 A2 A3 A4 k1 k2 k3 k4, x = .returned (.tuple #[patV (.slice A1 (patR R).pre.length k1) (.slice A2 (patR R).suf.length k2) (.slice A3 (patR R).npre.length k3) (.slice A4 (patR R).nsuf.length k4) (patR R), .agg #[.int .i64 (spotR R).1, .int .i64 (spotR R).2]]) ∧
      RdP w' (.slice A1 (patR R).pre.length k1) (.slice A2 (patR R).suf.length k2) (.slice A3 (patR R).npre.length k3) (.slice A4 (patR R).nsuf.length k4) (patR R) ∧
      SpOK w.heap.size w' A1 (patR R).pre.length k1 ∧ SpOK w.heap.size w' A2 (patR R).suf.length k2 ∧ SpOK w.heap.size w' A3 (patR R).npre.length k3 ∧ SpOK w.heap.size w' A4 (patR R).nsuf.length k4 ∧ Keep [] w w' := by
  cases R with
  | ok r =>
    obtain ⟨v1, v2, v3, v4, M1, M2, M3, rfl, o1, o2, o3, o4, b1, b2, b3, m1, m2, m3, hb⟩ := h
    obtain ⟨A1, k1, rfl, s1⟩ := o1.spOK (Nat.le_refl _)
    obtain ⟨A2, k2, rfl, s2⟩ := o2.spOK m1
    obtain ⟨A3, k3, rfl, s3⟩ := o3.spOK (Nat.le_trans m1 m2)
    obtain ⟨A4, k4, rfl, s4⟩ := o4.spOK (Nat.le_trans m1 (Nat.le_trans m2 m3))
    exact ⟨A1, A2, A3, A4, k1, k2, k3, k4, rfl, ⟨o1.reads, o2.reads, o3.reads, o4.reads⟩, s1, s2, s3, s4, Keep.of_below hb⟩
  | error y => exact ⟨none, none, none, none, 0, 0, 0, 0, h.1, ⟨RdA.nil _, RdA.nil _, RdA.nil _, RdA.nil _⟩, SpOK.nil _ _, SpOK.nil _ _, SpOK.nil _ _, SpOK.nil _ _, Keep.of_below h.2⟩
theorem Keep.then_below {a b c : World} (h : Keep [] a b) (k : Below a.heap.size b c) : Keep [] a c :=
  ⟨k.os.trans h.os, k.tape.trans h.tape, k.output.trans h.output, Nat.le_trans h.size k.size, fun i hi hn => (k.block i hi).trans (h.block i hi hn)⟩

set_option maxRecDepth 100000 in
set_option maxHeartbeats 4000000 in
theorem law_parses {B : Nat} (w : World) (s : ByteArray) (hE : Env B w) (hs : s.size ≤ 9223372036854775000) :
    Calls Tryd.prog 3 #[.string s] w fun e w' => e = .returned (.bool true) ∧ Keep [] w w' := by
  have HWk := Lib.hid (wakes_any w hE)
  have HE := Lib.hid hE
  have HRp : ∀ W, Hid (Calls Tryd.prog 11 #[.string s] W (RPPost W (parseS s))) := fun W => rparse_any W s hs
  have HPa : ∀ W, Keep [] w W → Hid (Calls Tryd.prog 12 #[.string s] W (PPost W (parseS s))) := fun W hk => parse_any W s (hE.below (hk.below (fun _ h => by cases h) hE.le)) hs
  clear hE
  generalize parseS s = R at *
  go_enter Tryd.func3, Tryd.ntmps3
  go_wp2_with (go_at_call 10; refine HWk.out.mono ?_; rintro e w1 ⟨rfl, hk1⟩)
  refine (HRp _).out.mono ?_
  intro e w2 hq
  obtain ⟨v1, v2, v3, v4, rfl, hr2, hk2⟩ := hq.out
  obtain ⟨A1, k1, rfl, -⟩ := hr2.pre
  obtain ⟨A2, k2, rfl, -⟩ := hr2.suf
  obtain ⟨A3, k3, rfl, -⟩ := hr2.npre
  obtain ⟨A4, k4, rfl, -⟩ := hr2.nsuf
  have HK2 := Lib.hid (hk1.nil hk2)
  have HR2 := Lib.hid hr2
  clear hq hr2 hk2 hk1 HWk HRp
  generalize hp : patR R = p at *
  generalize hy : (spotR R).1 = y at *
  generalize hz : (spotR R).2 = z at *
  have HPp : Hid (patR R = p ∧ (spotR R).1 = y ∧ (spotR R).2 = z) := ⟨hp, hy, hz⟩
  have HB0 := Lib.hid ((PatAt.new w2 (.slice A1 p.pre.length k1) (.slice A2 p.suf.length k2) (.slice A3 p.npre.length k3) (.slice A4 p.nsuf.length k4) p).alloc (.cells #[.int .i64 y, .int .i64 z] 28))
  have HS0 : Hid (Sp ((w2.alloc (boxP (.slice A1 p.pre.length k1) (.slice A2 p.suf.length k2) (.slice A3 p.npre.length k3) (.slice A4 p.nsuf.length k4) p)).alloc (.cells #[.int .i64 y, .int .i64 z] 28)) (w2.heap.size + 1) y z) := Blk.new' _ _ _ _ (by simp)
  have HK0 : Hid (Keep [] w2 ((w2.alloc (boxP (.slice A1 p.pre.length k1) (.slice A2 p.suf.length k2) (.slice A3 p.npre.length k3) (.slice A4 p.nsuf.length k4) p)).alloc (.cells #[.int .i64 y, .int .i64 z] 28))) := ((Keep.refl _ _).alloc _).alloc _
  clear hp hy hz
  unfold boxP at HB0 HS0 HK0
  simp only [patV]
  go_wp2
  obtain ⟨g, hg⟩ : ∃ g, w2.heap.size = g := ⟨_, rfl⟩
  rw [hg] at HB0 HS0 ⊢
  have hgl : g ≤ w2.heap.size := Nat.le_of_eq hg.symm
  clear hg
  go_loopg [5] 2 (fun k s wx => ∃ r : Nat, r + k = 2 ∧ s = .int .i64 r ∧ PatAt wx g (.slice A1 p.pre.length k1) (.slice A2 p.suf.length k2) (.slice A3 p.npre.length k3) (.slice A4 p.nsuf.length k4) p ∧ Sp wx (g + 1) y z ∧ Keep [] w2 wx)
  case atStart => exact ⟨0, rfl, rfl, HB0.out, HS0.out, HK0.out⟩
  case round =>
    obtain ⟨r, hr, rfl, hB, hS, hK⟩ := hrel
    have Hr := Lib.hid hr
    have HB := Lib.hid hB
    have HS := Lib.hid hS
    have HK := Lib.hid hK
    have hr2 : r ≤ 2 := by omega
    clear hr hB hS hK HB0 HS0 HK0
    by_cases hlt : r < 2
    · go_wp2_with fail
      refine (HPa wr (HK2.out.nil HK.out)).out.mono ?_
      intro e w3 hq
      have hq2 := hq.out
      simp only [HPp.out.1, HPp.out.2.1, HPp.out.2.2] at hq2
      obtain ⟨B1, B2, B3, B4, j1, j2, j3, j4, rfl, hr3, s1, s2, s3, s4, hk3⟩ := hq2
      have HB3 := Lib.hid ((HB.out.keep hk3 (by simp)).alloc (boxP (.slice B1 p.pre.length j1) (.slice B2 p.suf.length j2) (.slice B3 p.npre.length j3) (.slice B4 p.nsuf.length j4) p))
      have HS3 : Hid (Sp (w3.alloc (boxP (.slice B1 p.pre.length j1) (.slice B2 p.suf.length j2) (.slice B3 p.npre.length j3) (.slice B4 p.nsuf.length j4) p)) (g + 1) y z) := Blk.alloc (Blk.keep HS.out hk3 (by simp)) _
      have HN3 := Lib.hid (PatAt.new w3 (.slice B1 p.pre.length j1) (.slice B2 p.suf.length j2) (.slice B3 p.npre.length j3) (.slice B4 p.nsuf.length j4) p)
      have HK3 := Lib.hid (HK.out.nil hk3)
      have Hk3 := Lib.hid hk3
      have HR3 := Lib.hid hr3
      have S1 := Lib.hid s1
      have S2 := Lib.hid s2
      have S3 := Lib.hid s3
      have S4 := Lib.hid s4
      have HSm : ∀ W, Keep [] w3 W → Hid (Calls Tryd.prog 13 #[patV (.slice B1 p.pre.length j1) (.slice B2 p.suf.length j2) (.slice B3 p.npre.length j3) (.slice B4 p.nsuf.length j4) p, patV (.slice A1 p.pre.length k1) (.slice A2 p.suf.length k2) (.slice A3 p.npre.length k3) (.slice A4 p.nsuf.length k4) p] W fun e w' => e = .returned (.bool true) ∧ Keep [] W w') :=
        fun W hk => same_eq W _ _ _ _ _ _ _ _ p (hr3.keep_nil hk) (HR2.out.keep_nil (HK3.out.nil hk))
      obtain ⟨q0, q1, q2, q3, q4, q5, q6, q7, q8, q9, qf, qz⟩ := (HB.out.keep hk3 (by simp)).all
      obtain ⟨t0, t1, tf⟩ := Sp.all (Blk.keep HS.out hk3 (by simp))
      have htz := Blk.lt (Blk.keep HS.out hk3 (by simp))
      clear hq hr3 s1 s2 s3 s4 hk3
      unfold boxP at HB3 HS3 HN3
      simp only [patV] at HSm ⊢
      go_wp2_with fail
      refine (HSm _ (((Keep.refl _ _).alloc _).alloc _)).out.mono ?_
      rintro e w4 ⟨rfl, hk4⟩
      have hka : Keep [] w3 w4 := (((Keep.refl _ _).alloc _).alloc _).nil hk4
      have HB4 := Lib.hid ((HB3.out.alloc _).keep hk4 (by simp))
      have HS4 : Hid (Sp w4 (g + 1) y z) := Blk.keep (Blk.alloc HS3.out _) hk4 (by simp)
      have hN4 := (HN3.out.alloc _).keep hk4 (by simp)
      have HSp := Lib.hid (spoil_any (B := wr.heap.size) w4 (Nat.le_trans Hk3.out.size hka.size) B1 B2 B3 B4 _ _ _ _ j1 j2 j3 j4 p (S1.out.keep hka) (S2.out.keep hka) (S3.out.keep hka) (S4.out.keep hka))
      have HKa := Lib.hid (Hk3.out.nil hka)
      clear hk4 hka HB3 HS3 HN3 HSm S1 S2 S3 S4 Hk3 HK3 HR3 q0 q1 q2 q3 q4 q5 q6 q7 q8 q9 qf qz t0 t1 tf htz
      obtain ⟨q0, q1, q2, q3, q4, q5, q6, q7, q8, q9, qf, qz⟩ := hN4.all
      clear hN4
      simp only [patV] at HSp
      go_wp2_with fail
      refine HSp.out.mono ?_
      rintro e w5 ⟨rfl, hb5⟩
      have hk5 := HKa.out.then_below hb5
      have HB5 : Hid (PatAt w5 g _ _ _ _ p) := Lib.hid (HB.out.keep hk5 (by simp))
      have HS5 : Hid (Sp w5 (g + 1) y z) := Blk.keep HS.out hk5 (by simp)
      have HK5 := Lib.hid (HK.out.nil hk5)
      clear hk5 hb5 HSp HKa HB4 HS4 q0 q1 q2 q3 q4 q5 q6 q7 q8 q9 qf qz HB HS HK
      go_wp2
      go_roundg (gk - 1)
      case measure => have := Hr.out; omega
      case rel => exact ⟨r + 1, by have := Hr.out; omega, by go_num, HB5.out, HS5.out, HK5.out⟩
    · go_wp2
      go_ret
      exact ⟨rfl, HK2.out.nil HK.out⟩
end Go.Proofs.YtkkglaglnfebjaaDoor
