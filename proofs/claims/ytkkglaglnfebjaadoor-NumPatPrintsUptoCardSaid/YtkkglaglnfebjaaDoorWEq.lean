/- Walks: the law's affixes and slices.Equal, for any two lists of pieces. -/
import Derived.Test.YtkkglaglnfebjaaDoorWSame
namespace Go.Proofs.YtkkglaglnfebjaaDoor
open Go.RowKit Go.IntWalk

/-- Are two pieces one? -/
def affB (a b : Aff) : Bool := decide (a.k = b.k ∧ a.t.toList = b.t.toList ∧ a.c = b.c)
set_option maxRecDepth 100000 in
theorem aff_neq (x y : Aff) (b : Bool) (h : affB x y = b) (W : World) : (binOp .neq 42 (.agg #[.int .i64 x.k, .string x.t, .int .i64 x.c]) (.agg #[.int .i64 y.k, .string y.t, .int .i64 y.c])).run Tryd.prog W = .ok (.bool (!b)) W := by
  subst h
  go_simp
  unfold affB
  by_cases h1 : x.k = y.k
  · by_cases h2 : x.t.toList = y.t.toList
    · by_cases h3 : x.c = y.c
      · simp [h1, h2, h3]
      · simp [h1, h2, h3]
    · simp [h1, h2]
  · simp [h1]
def eqL : List Aff → List Aff → Bool
  | [], [] => true
  | a :: l, b :: m => affB a b && eqL l m
  | _, _ => false
theorem eqL_len : ∀ (l m : List Aff), l.length ≠ m.length → eqL l m = false
  | [], [], h => absurd rfl h
  | [], _ :: _, _ => rfl
  | _ :: _, [], _ => rfl
  | a :: l, b :: m, h => by rw [eqL, eqL_len l m (fun hc => h (by simp [hc])), Bool.and_false]
theorem eqL_self : ∀ l : List Aff, eqL l l = true
  | [] => rfl
  | a :: l => by rw [eqL, eqL_self l]; simp [affB]


set_option maxRecDepth 100000 in
set_option maxHeartbeats 1000000 in
theorem raffixes_any (w : World) (v1 v2 : Value) (l m : List Aff) (h1 : RdA w v1 l) (h2 : RdA w v2 m) :
    Calls Tryd.prog 23 #[v1, v2] w fun e w' => e = .returned (.bool (eqL l m)) ∧ Keep [] w w' := by
  obtain ⟨A1, k1, rfl, a1, b1, c1⟩ := h1
  obtain ⟨A2, k2, rfl, a2, b2, c2⟩ := h2
  unfold maxLen at b1 b2
  by_cases hne : l.length = m.length
  · obtain ⟨M, hM⟩ : ∃ M, l.length = M := ⟨_, rfl⟩
    have hM2 : m.length = M := by omega
    have HM := Lib.hid hM
    have HM2 := Lib.hid hM2
    rw [hM] at a1 ⊢
    rw [hM2] at a2 ⊢
    have C1 := Lib.hid c1
    have C2 := Lib.hid c2
    clear c1 c2 hM hM2 hne
    go_enter Tryd.func23, Tryd.ntmps23
    go_wp2
    go_loopg [13] M (fun k s wx => ∃ j : Nat, j + k = M ∧ s = .int .i64 j ∧ eqL (l.drop j) (m.drop j) = eqL l m ∧ Keep [] w wx)
    case atStart => exact ⟨0, by omega, rfl, rfl, Keep.refl _ _⟩
    case round =>
      obtain ⟨j, hj, rfl, hq, h3⟩ := hrel
      have Hj := Lib.hid hj
      have HQ := Lib.hid hq
      have H3 := Lib.hid h3
      have hj4 : j ≤ M := by omega
      by_cases hlt : j < M
      · obtain ⟨x, hx⟩ : ∃ x, l[j]? = some x := ⟨_, List.getElem?_eq_getElem (by rw [HM.out]; omega)⟩
        obtain ⟨y, hy⟩ : ∃ y, m[j]? = some y := ⟨_, List.getElem?_eq_getElem (by rw [HM2.out]; omega)⟩
        obtain ⟨g1, o1, rfl, hg1, d1⟩ := C1.out (by rintro rfl; simp at hx)
        obtain ⟨g2, o2, rfl, hg2, d2⟩ := C2.out (by rintro rfl; simp at hy)
        have e1 : l.drop j = x :: l.drop (j + 1) := by
          rw [List.drop_eq_getElem_cons (by rw [HM.out]; omega)]
          congr 1
          exact (List.getElem?_eq_some_iff.1 hx).2
        have e2 : m.drop j = y :: m.drop (j + 1) := by
          rw [List.drop_eq_getElem_cons (by rw [HM2.out]; omega)]
          congr 1
          exact (List.getElem?_eq_some_iff.1 hy).2
        have HE : Hid (eqL l m = (affB x y && eqL (l.drop (j + 1)) (m.drop (j + 1)))) := by unfold Hid; rw [← HQ.out, e1, e2]; rfl
        have hc := affC_at l j x hx
        have hd := affC_at m j y hy
        have w1 : ∀ i u, (affC l)[i]? = some u → wr.cell? ⟨g1, o1 + i, none⟩ = some u := fun i u hu => (h3.cell (p := ⟨g1, o1 + i, none⟩) hg1 (by simp)).trans (d1 i u hu)
        have w2 : ∀ i u, (affC m)[i]? = some u → wr.cell? ⟨g2, o2 + i, none⟩ = some u := fun i u hu => (h3.cell (p := ⟨g2, o2 + i, none⟩) hg2 (by simp)).trans (d2 i u hu)
        have q0 := w1 _ _ hc.1
        have q1 := w1 _ _ hc.2.1
        have q2 := w1 _ _ hc.2.2
        have r0 := w2 _ _ hd.1
        have r1 := w2 _ _ hd.2.1
        have r2 := w2 _ _ hd.2.2
        simp only [← Nat.add_assoc] at q1 q2 r1 r2
        clear hq h3 hj hx hy hc hd e1 e2 d1 d2 w1 w2
        cases ha : affB x y
        · have HE2 : Hid (eqL l m = false) := by unfold Hid; rw [HE.out, ha]; rfl
          have hN := aff_neq x y _ ha
          simp only [Bool.not_false] at hN
          clear ha HE
          go_upto_region 6 with fail
          go_quiet (fail)
          go_wp2
          go_ret
          exact ⟨by rw [HE2.out]; rfl, H3.out.drewN _⟩
        · have HE2 : Hid (eqL (l.drop (j + 1)) (m.drop (j + 1)) = eqL l m) := by unfold Hid; rw [HE.out, ha, Bool.true_and]
          have hN := aff_neq x y _ ha
          simp only [Bool.not_true] at hN
          clear ha HE
          go_upto_region 6 with fail
          go_quiet (fail)
          go_wp2
          go_roundg (gk - 1)
          case measure => have := Hj.out; omega
          case rel => exact ⟨j + 1, by have := Hj.out; omega, by go_num, HE2.out, H3.out.drewN _⟩
      · have HE2 : Hid (eqL l m = true) := by
          unfold Hid
          rw [← HQ.out, List.drop_eq_nil_of_le (by rw [HM.out]; omega), List.drop_eq_nil_of_le (by rw [HM2.out]; omega)]
          rfl
        have hjM : j = M := by omega
        subst hjM
        clear hq h3 hj
        go_wp2
        go_ret
        exact ⟨by rw [HE2.out]; rfl, H3.out⟩
  · have HE := Lib.hid (eqL_len l m hne)
    have hne2 : ((l.length : Int) != m.length) = true := by rw [bne_iff_ne]; omega
    generalize l.length = n1 at *
    generalize m.length = n2 at *
    clear c1 c2
    go_enter Tryd.func23, Tryd.ntmps23
    go_wp2
    go_ret
    exact ⟨by rw [HE.out]; rfl, Keep.refl _ _⟩


set_option maxRecDepth 100000 in
set_option maxHeartbeats 1000000 in
theorem sequal_any (w : World) (v1 v2 : Value) (l m : List Aff) (h1 : RdA w v1 l) (h2 : RdA w v2 m) :
    Calls Tryd.prog 56 #[v1, v2] w fun e w' => e = .returned (.bool (eqL l m)) ∧ Keep [] w w' := by
  obtain ⟨A1, k1, rfl, a1, b1, c1⟩ := h1
  obtain ⟨A2, k2, rfl, a2, b2, c2⟩ := h2
  unfold maxLen at b1 b2
  by_cases hne : l.length = m.length
  · obtain ⟨M, hM⟩ : ∃ M, l.length = M := ⟨_, rfl⟩
    have hM2 : m.length = M := by omega
    have HM := Lib.hid hM
    have HM2 := Lib.hid hM2
    rw [hM] at a1 ⊢
    rw [hM2] at a2 ⊢
    have C1 := Lib.hid c1
    have C2 := Lib.hid c2
    clear c1 c2 hM hM2 hne
    go_enter Tryd.func56, Tryd.ntmps56
    go_wp2
    go_loopg [13] M (fun k s wx => ∃ j : Nat, j + k = M ∧ s = .int .i64 j ∧ eqL (l.drop j) (m.drop j) = eqL l m ∧ Keep [] w wx)
    case atStart => exact ⟨0, by omega, rfl, rfl, Keep.refl _ _⟩
    case round =>
      obtain ⟨j, hj, rfl, hq, h3⟩ := hrel
      have Hj := Lib.hid hj
      have HQ := Lib.hid hq
      have H3 := Lib.hid h3
      have hj4 : j ≤ M := by omega
      by_cases hlt : j < M
      · obtain ⟨x, hx⟩ : ∃ x, l[j]? = some x := ⟨_, List.getElem?_eq_getElem (by rw [HM.out]; omega)⟩
        obtain ⟨y, hy⟩ : ∃ y, m[j]? = some y := ⟨_, List.getElem?_eq_getElem (by rw [HM2.out]; omega)⟩
        obtain ⟨g1, o1, rfl, hg1, d1⟩ := C1.out (by rintro rfl; simp at hx)
        obtain ⟨g2, o2, rfl, hg2, d2⟩ := C2.out (by rintro rfl; simp at hy)
        have e1 : l.drop j = x :: l.drop (j + 1) := by
          rw [List.drop_eq_getElem_cons (by rw [HM.out]; omega)]
          congr 1
          exact (List.getElem?_eq_some_iff.1 hx).2
        have e2 : m.drop j = y :: m.drop (j + 1) := by
          rw [List.drop_eq_getElem_cons (by rw [HM2.out]; omega)]
          congr 1
          exact (List.getElem?_eq_some_iff.1 hy).2
        have HE : Hid (eqL l m = (affB x y && eqL (l.drop (j + 1)) (m.drop (j + 1)))) := by unfold Hid; rw [← HQ.out, e1, e2]; rfl
        have hc := affC_at l j x hx
        have hd := affC_at m j y hy
        have w1 : ∀ i u, (affC l)[i]? = some u → wr.cell? ⟨g1, o1 + i, none⟩ = some u := fun i u hu => (h3.cell (p := ⟨g1, o1 + i, none⟩) hg1 (by simp)).trans (d1 i u hu)
        have w2 : ∀ i u, (affC m)[i]? = some u → wr.cell? ⟨g2, o2 + i, none⟩ = some u := fun i u hu => (h3.cell (p := ⟨g2, o2 + i, none⟩) hg2 (by simp)).trans (d2 i u hu)
        have q0 := w1 _ _ hc.1
        have q1 := w1 _ _ hc.2.1
        have q2 := w1 _ _ hc.2.2
        have r0 := w2 _ _ hd.1
        have r1 := w2 _ _ hd.2.1
        have r2 := w2 _ _ hd.2.2
        simp only [← Nat.add_assoc] at q1 q2 r1 r2
        clear hq h3 hj hx hy hc hd e1 e2 d1 d2 w1 w2
        cases ha : affB x y
        · have HE2 : Hid (eqL l m = false) := by unfold Hid; rw [HE.out, ha]; rfl
          have hN := aff_neq x y _ ha
          simp only [Bool.not_false] at hN
          clear ha HE
          go_upto_region 6 with fail
          go_quiet (fail)
          go_wp2
          go_ret
          exact ⟨by rw [HE2.out]; rfl, H3.out.drewN _⟩
        · have HE2 : Hid (eqL (l.drop (j + 1)) (m.drop (j + 1)) = eqL l m) := by unfold Hid; rw [HE.out, ha, Bool.true_and]
          have hN := aff_neq x y _ ha
          simp only [Bool.not_true] at hN
          clear ha HE
          go_upto_region 6 with fail
          go_quiet (fail)
          go_wp2
          go_roundg (gk - 1)
          case measure => have := Hj.out; omega
          case rel => exact ⟨j + 1, by have := Hj.out; omega, by go_num, HE2.out, H3.out.drewN _⟩
      · have HE2 : Hid (eqL l m = true) := by
          unfold Hid
          rw [← HQ.out, List.drop_eq_nil_of_le (by rw [HM.out]; omega), List.drop_eq_nil_of_le (by rw [HM2.out]; omega)]
          rfl
        have hjM : j = M := by omega
        subst hjM
        clear hq h3 hj
        go_wp2
        go_ret
        exact ⟨by rw [HE2.out]; rfl, H3.out⟩
  · have HE := Lib.hid (eqL_len l m hne)
    have hne2 : ((l.length : Int) != m.length) = true := by rw [bne_iff_ne]; omega
    generalize l.length = n1 at *
    generalize m.length = n2 at *
    clear c1 c2
    go_enter Tryd.func56, Tryd.ntmps56
    go_wp2
    go_ret
    exact ⟨by rw [HE.out]; rfl, Keep.refl _ _⟩

end Go.Proofs.YtkkglaglnfebjaaDoor
