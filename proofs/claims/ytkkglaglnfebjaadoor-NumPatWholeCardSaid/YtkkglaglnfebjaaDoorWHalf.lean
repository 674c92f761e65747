/- Walks: numpat's half. -/
import Derived.Test.YtkkglaglnfebjaaDoorWDigits
namespace Go.Proofs.YtkkglaglnfebjaaDoor
open Go.RowKit

section
variable {w : World} {h : Nat} {vp vs vn np ns : Value} {mi mf xf g1 g2 : Int}
theorem Pat.set0 (H : Pat w h vp vs vn np ns mi mf xf g1 g2) (v : Value) : Pat (w.setCell ⟨h, 0, none⟩ v) h v vs vn np ns mi mf xf g1 g2 := Blk.set_ H 0 _
theorem Pat.set1 (H : Pat w h vp vs vn np ns mi mf xf g1 g2) (v : Value) : Pat (w.setCell ⟨h, 1, none⟩ v) h vp v vn np ns mi mf xf g1 g2 := Blk.set_ H 1 _
theorem Pat.cells5 (H : Pat w h vp vs vn np ns mi mf xf g1 g2) :
    w.cell? ⟨h, 0, none⟩ = some vp ∧ w.cell? ⟨h, 1, none⟩ = some vs ∧ w.cell? ⟨h, 2, none⟩ = some vn ∧ w.cell? ⟨h, 3, none⟩ = some np ∧ w.cell? ⟨h, 4, none⟩ = some ns ∧ ∀ i, w.frozen? ⟨h, i, none⟩ = false :=
  ⟨H.cell_eq rfl, H.cell_eq rfl, H.cell_eq rfl, H.cell_eq rfl, H.cell_eq rfl, H.frozen⟩
end
theorem OwnA.below {w : World} {B : Nat} {v : Value} {l : List Aff} (h : OwnA w B v l) : ∀ x ∈ v.ownBlock.toList, x < w.heap.size := fun x hx => (World.ownsRow.lt h x (by simpa using hx)).2

def HPost (w : World) (g h : Nat) (s : ByteArray) (e ea : Int) (vn np ns : Value) : Except (Int × Nat) HRes → Ending → World → Prop
  | .ok r, x, w' => x = .returned (.bool true) ∧ ∃ v1 v2 M, Rd w' g s r.q e ea ∧ Pat w' h v1 v2 vn np ns r.d.mi r.d.mf r.d.xf r.d.g1 r.d.g2 ∧ OwnA w' w.heap.size v1 r.pre ∧ OwnA w' M v2 r.suf ∧ (∀ x ∈ v1.ownBlock.toList, x < M) ∧ w.heap.size ≤ M ∧
      Keep [g, h] w w' ∧ r.q ≤ s.size ∧ M ≤ w'.heap.size
  | .error y, x, w' => x = .returned (.bool false) ∧ (∃ q, Rd w' g s q y.1 y.2) ∧ Keep [g, h] w w'

set_option maxRecDepth 100000 in
set_option maxHeartbeats 2000000 in
theorem half_any {B : Nat} (w : World) (g h : Nat) (s : ByteArray) (p : Nat) (e ea : Int) (vn np ns : Value) (hE : Env B w) (hR : Rd w g s p e ea) (hP : Pat w h (.slice none 0 0) (.slice none 0 0) vn np ns 0 0 0 0 0) (hgh : g ≠ h) (hg : B ≤ g) (hh : B ≤ h) (hs : s.size ≤ 100000000) (hp : p ≤ s.size) :
    Calls Tryd.prog 42 #[.pointer (some ⟨g, 0, none⟩), .pointer (some ⟨h, 0, none⟩)] w (HPost w g h s e ea vn np ns (halfS s p)) := by
  have hgl := hR.lt
  have hhl := Blk.lt hP
  have hA := around_any w g s p (s.size + 1 - p) e ea hE hR hg hs hp (by omega)
  have HS : Hid (halfS s p = (match aroundF s (s.size + 1 - p) p [] with
    | .error y => .error (260, y)
    | .ok (l1, q1) =>
      match digitsS s q1 with
      | .error e => .error e
      | .ok d =>
        match aroundF s (s.size + 1 - d.q) d.q [] with
        | .error y => .error (260, y)
        | .ok (l2, q2) => .ok ⟨l1, d, l2, q2⟩)) := rfl
  have HP := Lib.hid hP
  have HE := Lib.hid hE
  clear hR hP hE
  cases hx : aroundF s (s.size + 1 - p) p [] with
  | error y =>
    rw [hx] at hA
    have HA := Lib.hid hA
    have HS2 : Hid (halfS s p = .error (260, y)) := by have := HS.out; rw [hx] at this; exact this
    clear hA hx HS
    go_enter Tryd.func42, Tryd.ntmps42
    go_wp2_with fail
    refine HA.out.mono ?_
    rintro x w1 ⟨rfl, ⟨q, hR1⟩, k1⟩
    have hP1 : Pat w1 h (.slice none 0 0) (.slice none 0 0) vn np ns 0 0 0 0 0 := Blk.keep HP.out k1 (by simpa using hgh.symm)
    obtain ⟨p0, p1, p2, p3, p4, pf⟩ := hP1.cells5
    have HR1 := Lib.hid hR1
    have HK1 := Lib.hid k1
    clear hP1 hR1 k1
    go_wp2
    go_ret
    rw [HS2.out]
    exact ⟨rfl, ⟨q, Blk.far HR1.out hgh _⟩, (HK1.out.mono (fun x hx => .inl (by simp at hx; simp [hx]))).setCell (.inl (by simp)) _⟩
  | ok r1 =>
    obtain ⟨l1, q1⟩ := r1
    rw [hx] at hA
    have HA := Lib.hid hA
    have HS1 : Hid (halfS s p = (match digitsS s q1 with
      | .error e => .error e
      | .ok d =>
        match aroundF s (s.size + 1 - d.q) d.q [] with
        | .error y => .error (260, y)
        | .ok (l2, q2) => .ok ⟨l1, d, l2, q2⟩)) := by have := HS.out; rw [hx] at this; exact this
    clear hA hx HS
    go_enter Tryd.func42, Tryd.ntmps42
    go_wp2_with fail
    refine HA.out.mono ?_
    rintro x w1 ⟨v1, rfl, hO1, hR1, k1, hpq, hq1, hAI⟩
    obtain ⟨A1, cap1, rfl, _⟩ := hO1.form
    generalize hn1 : l1.length = n1 at *
    have Hn1 := Lib.hid hn1
    clear hn1
    have hP1 : Pat w1 h (.slice none 0 0) (.slice none 0 0) vn np ns 0 0 0 0 0 := Blk.keep HP.out k1 (by simpa using hgh.symm)
    obtain ⟨p0, p1, p2, p3, p4, pf⟩ := hP1.cells5
    have HR1 := Lib.hid hR1
    have HK1 := Lib.hid k1
    have HP1 := Lib.hid hP1
    have HO1 := Lib.hid hO1
    clear hP1 hR1 k1 hO1 HA
    -- behind the store of Prefix
    have HR2 : Hid (Rd (w1.setCell ⟨h, 0, none⟩ (.slice A1 n1 cap1)) g s q1 e ea) := Blk.far HR1.out hgh _
    have HP2 := Lib.hid (HP1.out.set0 (.slice A1 n1 cap1))
    have HK2 : Hid (Keep [g, h] w (w1.setCell ⟨h, 0, none⟩ (.slice A1 n1 cap1))) := (HK1.out.mono (fun x hx => .inl (by simp at hx; simp [hx]))).setCell (.inl (by simp)) _
    have HO2 : Hid (OwnA (w1.setCell ⟨h, 0, none⟩ (.slice A1 n1 cap1)) w.heap.size (.slice A1 n1 cap1) l1) := HO1.out.setRd hhl _ _
    have HDc := Lib.hid (digits_any _ g h s q1 e ea (.slice A1 n1 cap1) (.slice none 0 0) vn np ns HR2.out HP2.out hgh hs hq1)
    cases hd : digitsS s q1 with
    | error y =>
      rw [hd] at HDc
      have HS2 : Hid (halfS s p = .error y) := by have := HS1.out; rw [hd] at this; exact this
      clear hd HS1
      go_wp2_with fail
      refine HDc.out.mono ?_
      rintro x w3 ⟨rfl, ⟨q, hR3⟩, k3⟩
      have HR3 := Lib.hid hR3
      have HK3 := Lib.hid (HK2.out.same k3)
      clear hR3 k3 HDc
      go_wp2
      go_ret
      rw [HS2.out]
      exact ⟨rfl, ⟨q, HR3.out⟩, HK3.out⟩
    | ok d =>
      rw [hd] at HDc
      have hdq := digitsS_le hq1 hd
      have HS2 : Hid (halfS s p = (match aroundF s (s.size + 1 - d.q) d.q [] with
        | .error y => .error (260, y)
        | .ok (l2, q2) => .ok ⟨l1, d, l2, q2⟩)) := by have := HS1.out; rw [hd] at this; exact this
      clear hd HS1
      go_wp2_with fail
      refine HDc.out.mono ?_
      rintro x w3 ⟨rfl, hR3, hP3, k3⟩
      have HR3 := Lib.hid hR3
      have HK3 := Lib.hid (HK2.out.same k3)
      have HP3 := Lib.hid hP3
      have HO3 := Lib.hid (HO2.out.keep k3 (fun x hx hc => by have := HO2.out.lt x hx; simp at hc; omega))
      have HE3 := Lib.hid (HE.out.keep HK3.out (fun x hx => by simp at hx; omega))
      have hA2 := around_any w3 g s d.q (s.size + 1 - d.q) e ea HE3.out HR3.out hg hs hdq (by omega)
      have HM := Lib.hid HO3.out.below
      have hM2 := HK3.out.size
      clear hR3 k3 HDc hP3 p0 p1 p2 p3 p4 pf
      cases hx : aroundF s (s.size + 1 - d.q) d.q [] with
      | error y =>
        rw [hx] at hA2
        have HA := Lib.hid hA2
        have HS3 : Hid (halfS s p = .error (260, y)) := by have := HS2.out; rw [hx] at this; exact this
        clear hA2 hx HS2
        go_wp2_with fail
        refine HA.out.mono ?_
        rintro x w4 ⟨rfl, ⟨q, hR4⟩, k4⟩
        have hP4 : Pat w4 h (.slice A1 n1 cap1) (.slice none 0 0) vn np ns d.mi d.mf d.xf d.g1 d.g2 := Blk.keep HP3.out k4 (by simpa using hgh.symm)
        obtain ⟨p0, p1, p2, p3, p4, pf⟩ := hP4.cells5
        have HR4 := Lib.hid hR4
        have HK4 := Lib.hid (HK3.out.trans k4 (fun x hx => .inl (by simp at hx; simp [hx])))
        clear hP4 hR4 k4
        go_wp2
        go_ret
        rw [HS3.out]
        exact ⟨rfl, ⟨q, Blk.far HR4.out hgh _⟩, HK4.out.setCell (.inl (by simp)) _⟩
      | ok r2 =>
        obtain ⟨l2, q2⟩ := r2
        rw [hx] at hA2
        have HA := Lib.hid hA2
        have HS3 : Hid (halfS s p = .ok ⟨l1, d, l2, q2⟩) := by have := HS2.out; rw [hx] at this; exact this
        clear hA2 hx HS2
        go_wp2_with fail
        refine HA.out.mono ?_
        rintro x w4 ⟨v2, rfl, hO4, hR4, k4, hpq4, hq4, hAI4⟩
        obtain ⟨A2, cap2, rfl, _⟩ := hO4.form
        generalize hn2 : l2.length = n2 at *
        have Hn2 := Lib.hid hn2
        clear hn2
        have hP4 : Pat w4 h (.slice A1 n1 cap1) (.slice none 0 0) vn np ns d.mi d.mf d.xf d.g1 d.g2 := Blk.keep HP3.out k4 (by simpa using hgh.symm)
        obtain ⟨p0, p1, p2, p3, p4, pf⟩ := hP4.cells5
        have HR4 := Lib.hid hR4
        have HK4 := Lib.hid (HK3.out.trans k4 (fun x hx => .inl (by simp at hx; simp [hx])))
        have HP4 := Lib.hid hP4
        have HO4 := Lib.hid hO4
        have HO5 := Lib.hid (HO3.out.keep k4 (fun x hx hc => by have := HO3.out.lt x hx; simp at hc; omega))
        have hM4 := k4.size
        clear hP4 hR4 k4 hO4
        go_wp2
        go_ret
        rw [HS3.out]
        exact ⟨rfl, .slice A1 n1 cap1, .slice A2 n2 cap2, w3.heap.size, Blk.far HR4.out hgh _, HP4.out.set1 _, HO5.out.setRd hhl _ _, HO4.out.setRd (by omega) _ _, HM.out, hM2, HK4.out.setCell (.inl (by simp)) _, hq4, by simpa [World.setCell] using hM4⟩
end Go.Proofs.YtkkglaglnfebjaaDoor
