/- Walks: the law's affixes and same. -/
import Derived.Test.YtkkglaglnfebjaaDoorWLGroups
import Derived.Test.YtkkglaglnfebjaaDoorWClone
namespace Go.Proofs.YtkkglaglnfebjaaDoor
open Go.RowKit Go.IntWalk

set_option maxRecDepth 100000 in
set_option maxHeartbeats 1000000 in
theorem affixes_eq (w : World) (v1 v2 : Value) (l : List Aff) (h1 : RdA w v1 l) (h2 : RdA w v2 l) :
    Calls Tryd.prog 23 #[v1, v2] w fun e w' => e = .returned (.bool true) ∧ Keep [] w w' := by
  obtain ⟨A1, k1, rfl, a1, b1, c1⟩ := h1
  obtain ⟨A2, k2, rfl, a2, b2, c2⟩ := h2
  obtain ⟨M, hM⟩ : ∃ M, l.length = M := ⟨_, rfl⟩
  rw [hM] at a1 a2 ⊢
  unfold maxLen at b1 b2
  by_cases hne : l = []
  · subst hne
    obtain rfl : M = 0 := by simpa using hM.symm
    clear c1 c2 hM
    go_enter Tryd.func23, Tryd.ntmps23
    go_wp2
    go_loopg [13] 0 (fun k s wx => k = 0 ∧ s = .int .i64 0 ∧ wx = w)
    case atStart => exact ⟨rfl, rfl, rfl⟩
    case round =>
      obtain ⟨rfl, rfl, rfl⟩ := hrel
      go_wp2
      go_ret
      exact ⟨rfl, Keep.refl _ _⟩
  obtain ⟨g1, o1, rfl, _, d1⟩ := c1 hne
  obtain ⟨g2, o2, rfl, _, d2⟩ := c2 hne
  have HM := Lib.hid hM
  have D1 := Lib.hid d1
  have D2 := Lib.hid d2
  clear c1 c2 hM d1 d2 hne
  go_enter Tryd.func23, Tryd.ntmps23
  go_wp2
  go_loopg [13] M (fun k s wx => ∃ m : Nat, m + k = M ∧ s = .int .i64 m ∧ (∀ j u, (affC l)[j]? = some u → wx.cell? ⟨g1, o1 + j, none⟩ = some u) ∧ (∀ j u, (affC l)[j]? = some u → wx.cell? ⟨g2, o2 + j, none⟩ = some u) ∧ Keep [] w wx)
  case atStart => exact ⟨0, by omega, rfl, D1.out, D2.out, Keep.refl _ _⟩
  case round =>
    obtain ⟨m, hm, rfl, h1, h2, h3⟩ := hrel
    have Hm := Lib.hid hm
    have H1 := Lib.hid h1
    have H2 := Lib.hid h2
    have H3 := Lib.hid h3
    have hm4 : m ≤ M := by omega
    by_cases hlt2 : m < M
    · obtain ⟨x, hx⟩ : ∃ x, l[m]? = some x := ⟨_, List.getElem?_eq_getElem (by rw [HM.out]; omega)⟩
      have hc := affC_at l m x hx
      have q0 := h1 _ _ hc.1
      have q1 := h1 _ _ hc.2.1
      have q2 := h1 _ _ hc.2.2
      have r0 := h2 _ _ hc.1
      have r1 := h2 _ _ hc.2.1
      have r2 := h2 _ _ hc.2.2
      simp only [← Nat.add_assoc] at q1 q2 r1 r2
      clear h1 h2 h3 hm hx hc
      go_upto_region 6 with fail
      go_quiet (fail)
      go_wp2
      go_roundg (gk - 1)
      case measure => have := Hm.out; omega
      case rel => exact ⟨m + 1, by have := Hm.out; omega, by go_num, H1.out, H2.out, H3.out.drewN _⟩
    · have hmM : m = M := by omega
      subst hmM
      clear h1 h2 h3 hm
      go_wp2
      go_ret
      exact ⟨rfl, H3.out⟩

set_option maxRecDepth 100000 in
set_option maxHeartbeats 1000000 in
theorem same_eq (w : World) (v1 v2 v3 v4 u1 u2 u3 u4 : Value) (p : PatD) (hp : RdP w v1 v2 v3 v4 p) (hq : RdP w u1 u2 u3 u4 p) :
    Calls Tryd.prog 13 #[patV v1 v2 v3 v4 p, patV u1 u2 u3 u4 p] w fun e w' => e = .returned (.bool true) ∧ Keep [] w w' := by
  have HF1 : ∀ W, Keep [] w W → Hid (Calls Tryd.prog 23 #[v1, u1] W fun e w' => e = .returned (.bool true) ∧ Keep [] W w') := fun W hk => affixes_eq W _ _ _ (hp.pre.keep_nil hk) (hq.pre.keep_nil hk)
  have HF2 : ∀ W, Keep [] w W → Hid (Calls Tryd.prog 23 #[v2, u2] W fun e w' => e = .returned (.bool true) ∧ Keep [] W w') := fun W hk => affixes_eq W _ _ _ (hp.suf.keep_nil hk) (hq.suf.keep_nil hk)
  have HF3 : ∀ W, Keep [] w W → Hid (Calls Tryd.prog 23 #[v3, u3] W fun e w' => e = .returned (.bool true) ∧ Keep [] W w') := fun W hk => affixes_eq W _ _ _ (hp.npre.keep_nil hk) (hq.npre.keep_nil hk)
  have HF4 : ∀ W, Keep [] w W → Hid (Calls Tryd.prog 23 #[v4, u4] W fun e w' => e = .returned (.bool true) ∧ Keep [] W w') := fun W hk => affixes_eq W _ _ _ (hp.nsuf.keep_nil hk) (hq.nsuf.keep_nil hk)
  have HB0 : Hid (PatAt ((w.alloc (boxP v1 v2 v3 v4 p)).alloc (boxP u1 u2 u3 u4 p)) w.heap.size v1 v2 v3 v4 p) := (PatAt.new w v1 v2 v3 v4 p).alloc _
  have HC0 : Hid (PatAt ((w.alloc (boxP v1 v2 v3 v4 p)).alloc (boxP u1 u2 u3 u4 p)) (w.heap.size + 1) u1 u2 u3 u4 p) := Blk.new' _ _ _ _ (by simp)
  have HK0 : Hid (Keep [] w ((w.alloc (boxP v1 v2 v3 v4 p)).alloc (boxP u1 u2 u3 u4 p))) := ((Keep.refl _ _).alloc _).alloc _
  clear hp hq
  unfold boxP at HB0 HC0 HK0
  simp only [patV] at *
  go_enter Tryd.func13, Tryd.ntmps13
  go_wp2_with fail
  refine (HF1 _ HK0.out).out.mono ?_
  rintro e w1 ⟨rfl, hk1⟩
  have HK1 := Lib.hid (HK0.out.nil hk1)
  have HB1 := Lib.hid (HB0.out.keep hk1 (by simp))
  have HC1 := Lib.hid (HC0.out.keep hk1 (by simp))
  obtain ⟨p0, p1, p2, p3, p4, _, _, _, _, _, _, _⟩ := HB1.out.all
  obtain ⟨q0, q1, q2, q3, q4, _, _, _, _, _, _, _⟩ := HC1.out.all
  clear hk1
  go_wp2_with fail
  refine (HF2 _ HK1.out).out.mono ?_
  rintro e w2 ⟨rfl, hk1⟩
  have HK2 := Lib.hid (HK1.out.nil hk1)
  have HB2 := Lib.hid (HB1.out.keep hk1 (by simp))
  have HC2 := Lib.hid (HC1.out.keep hk1 (by simp))
  clear hk1 p0 p1 p2 p3 p4 q0 q1 q2 q3 q4
  obtain ⟨p0, p1, p2, p3, p4, _, _, _, _, _, _, _⟩ := HB2.out.all
  obtain ⟨q0, q1, q2, q3, q4, _, _, _, _, _, _, _⟩ := HC2.out.all
  go_wp2_with fail
  refine (HF3 _ HK2.out).out.mono ?_
  rintro e w3 ⟨rfl, hk1⟩
  have HK3 := Lib.hid (HK2.out.nil hk1)
  have HB3 := Lib.hid (HB2.out.keep hk1 (by simp))
  have HC3 := Lib.hid (HC2.out.keep hk1 (by simp))
  clear hk1 p0 p1 p2 p3 p4 q0 q1 q2 q3 q4
  obtain ⟨p0, p1, p2, p3, p4, _, _, _, _, _, _, _⟩ := HB3.out.all
  obtain ⟨q0, q1, q2, q3, q4, _, _, _, _, _, _, _⟩ := HC3.out.all
  go_wp2_with fail
  refine (HF4 _ HK3.out).out.mono ?_
  rintro e w4 ⟨rfl, hk1⟩
  have HK4 := Lib.hid (HK3.out.nil hk1)
  clear hk1 p0 p1 p2 p3 p4 q0 q1 q2 q3 q4
  go_wp2
  go_ret
  exact ⟨rfl, HK4.out⟩
end Go.Proofs.YtkkglaglnfebjaaDoor
