/- Walks: the reference's digits. -/
import Derived.Test.YtkkglaglnfebjaaDoorWRAff
namespace Go.Proofs.YtkkglaglnfebjaaDoor
open Go.RowKit Go.IntWalk

set_option maxRecDepth 100000 in
theorem frame187 (t : Array Value) (h : t.size = 187) : ∃ u : Nat → Value, t = #[u 0, u 1, u 2, u 3, u 4, u 5, u 6, u 7, u 8, u 9, u 10, u 11, u 12, u 13, u 14, u 15, u 16, u 17, u 18, u 19, u 20, u 21, u 22, u 23, u 24, u 25, u 26, u 27, u 28, u 29, u 30, u 31, u 32, u 33, u 34, u 35, u 36, u 37, u 38, u 39, u 40, u 41, u 42, u 43, u 44, u 45, u 46, u 47, u 48, u 49, u 50, u 51, u 52, u 53, u 54, u 55, u 56, u 57, u 58, u 59, u 60, u 61, u 62, u 63, u 64, u 65, u 66, u 67, u 68, u 69, u 70, u 71, u 72, u 73, u 74, u 75, u 76, u 77, u 78, u 79, u 80, u 81, u 82, u 83, u 84, u 85, u 86, u 87, u 88, u 89, u 90, u 91, u 92, u 93, u 94, u 95, u 96, u 97, u 98, u 99, u 100, u 101, u 102, u 103, u 104, u 105, u 106, u 107, u 108, u 109, u 110, u 111, u 112, u 113, u 114, u 115, u 116, u 117, u 118, u 119, u 120, u 121, u 122, u 123, u 124, u 125, u 126, u 127, u 128, u 129, u 130, u 131, u 132, u 133, u 134, u 135, u 136, u 137, u 138, u 139, u 140, u 141, u 142, u 143, u 144, u 145, u 146, u 147, u 148, u 149, u 150, u 151, u 152, u 153, u 154, u 155, u 156, u 157, u 158, u 159, u 160, u 161, u 162, u 163, u 164, u 165, u 166, u 167, u 168, u 169, u 170, u 171, u 172, u 173, u 174, u 175, u 176, u 177, u 178, u 179, u 180, u 181, u 182, u 183, u 184, u 185, u 186] := ⟨fun i => t.getD i undef, (ofFn_getD t 187 h).trans (by kernel_rfl)⟩
theorem SameW.pat {W wr : World} {h : Nat} {vp vs vn np ns : Value} {mi mf xf g1 g2 : Int} (H : SameW W wr) (hP : Pat wr h vp vs vn np ns mi mf xf g1 g2) : Pat W h vp vs vn np ns mi mf xf g1 g2 := by unfold Pat Blk at hP ⊢; rw [H.heap]; exact hP
/-- The two last places of commas. -/
def cmFirst : List Int → Int
  | a :: _ :: _ => a
  | _ => 0
def cmLast : List Int → Int
  | [a] => a
  | _ :: b :: _ => b
  | _ => 0
theorem cm_len (cm : List Int) (n : Int) : (cm ++ [n]).length = cm.length + 1 := by simp
theorem cm_next (cm : List Int) (n : Int) (h : cm.length < 2) : cmFirst (cm ++ [n]) = cmLast cm ∧ cmLast (cm ++ [n]) = n := by
  match cm, h with
  | [], _ => exact ⟨rfl, rfl⟩
  | [a], _ => exact ⟨rfl, rfl⟩
/-- What holds of the loop over the digits ahead of the point. -/
structure DR (w0 : World) (g h : Nat) (s : ByteArray) (p : Nat) (vp vs vn np ns : Value) (s5 s6 s7 s8 s9 s10 : Value) (wx : World) (q n : Nat) (fr : Bool) (cm : List Int) (mi : Nat) : Prop where
  e5 : s5 = .int .i64 cm.length
  e6 : s6 = .bool (decide (0 < mi))
  e7 : s7 = .int .i64 (cmFirst cm)
  e8 : s8 = .int .i64 (cmLast cm)
  e9 : s9 = .int .i64 n
  e10 : s10 = .bool fr
  sc : Sc wx g s q 0 0
  pat : Pat wx h vp vs vn np ns mi 0 0 0 0
  kp : Keep [g, h] w0 wx
  din : DIn s p q n cm mi
/-- What holds at the label. -/
structure DJ (w0 : World) (g h : Nat) (s : ByteArray) (p : Nat) (vp vs vn np ns : Value) (R : Nat × Nat × Bool × List Int × Nat) (a : Act) (w : World) : Prop where
  df : a.defers = []
  sz : a.tmps.size = 187
  at0 : a.tmps.getD 0 undef = .pointer (some ⟨g, 0, none⟩)
  at1 : a.tmps.getD 1 undef = .pointer (some ⟨h, 0, none⟩)
  at4 : a.tmps.getD 4 undef = .int .i64 p
  ex : ∃ (q n : Nat) (fr : Bool) (cm : List Int) (mi : Nat), R = (q, n, fr, cm, mi) ∧ DR w0 g h s p vp vs vn np ns (a.tmps.getD 5 undef) (a.tmps.getD 6 undef) (a.tmps.getD 7 undef) (a.tmps.getD 8 undef) (a.tmps.getD 9 undef) (a.tmps.getD 10 undef) w q n fr cm mi
def RDPost (w : World) (g h : Nat) (s : ByteArray) (vp vs vn np ns : Value) : Except (Int × Nat) DRes → Ending → World → Prop
  | .ok r, x, w' => x = .returned (.tuple #[]) ∧ Sc w' g s r.q 0 0 ∧ Pat w' h vp vs vn np ns r.mi r.mf r.xf r.g1 r.g2 ∧ Keep [g, h] w w'
  | .error y, x, w' => x = .returned (.tuple #[]) ∧ (∃ q : Int, Sc w' g s q y.1 y.2) ∧ Keep [g, h] w w'

set_option maxRecDepth 100000 in
set_option maxHeartbeats 4000000 in
theorem rdigs_any (w : World) (g h : Nat) (s : ByteArray) (q0 : Nat) (vp vs vn np ns : Value) (hS : Sc w g s q0 0 0) (hP : Pat w h vp vs vn np ns 0 0 0 0 0) (hgh : g ≠ h) (hs : s.size ≤ 100000000) (hq0 : q0 ≤ s.size) :
    Calls Tryd.prog 38 #[.pointer (some ⟨g, 0, none⟩), .pointer (some ⟨h, 0, none⟩)] w (RDPost w g h s vp vs vn np ns (digitsS s q0)) := by
  obtain ⟨R, hR⟩ : ∃ R, dLoop s (s.size + 1 - q0) q0 0 true [] 0 = R := ⟨_, rfl⟩
  have HD0 : Hid (DR w g h s q0 vp vs vn np ns (.int .i64 0) (.bool false) (.int .i64 0) (.int .i64 0) (.int .i64 0) (.bool true) w q0 0 true [] 0) := ⟨rfl, rfl, rfl, rfl, rfl, rfl, hS, hP, Keep.refl _ _, ⟨Nat.le_refl _, hq0, Nat.zero_le _, Nat.le_refl _, Nat.zero_le _, fun a h => by cases h⟩⟩
  have HR := Lib.hid hR
  obtain ⟨c0, c1, c2, c3, cf, cz⟩ := hS.all
  have hhl := Blk.lt hP
  clear hS hP hR
  go_enter Tryd.func38, Tryd.ntmps38
  go_wp2
  refine wp_scope_loop 0 (DJ w g h s q0 vp vs vn np ns R) (fun _ _ => 0) rfl ?_ ?_
  · clear c0 c1 c2 c3 cf cz
    rintro ⟨t, df⟩ w1 hJ
    obtain ⟨hdf, hsz, h0, h1, h4, q, n, fr, cm, mi, hRq, hA⟩ := hJ
    obtain ⟨e5, e6, e7, e8, e9, e10, hS, hP, hK, hI⟩ := hA
    simp only at hdf hsz h0 h1 h4 e5 e6 e7 e8 e9 e10
    subst hdf
    obtain ⟨u, rfl⟩ := frame187 t hsz
    have g0 : u 0 = .pointer (some ⟨g, 0, none⟩) := h0
    have g1 : u 1 = .pointer (some ⟨h, 0, none⟩) := h1
    have g4 : u 4 = .int .i64 q0 := h4
    have g5 : u 5 = .int .i64 cm.length := e5
    have g6 : u 6 = .bool (decide (0 < mi)) := e6
    have g7 : u 7 = .int .i64 (cmFirst cm) := e7
    have g8 : u 8 = .int .i64 (cmLast cm) := e8
    have g9 : u 9 = .int .i64 n := e9
    have g10 : u 10 = .bool fr := e10
    clear h0 h1 h4 e5 e6 e7 e8 e9 e10 hsz
    dsimp only
    rw [g0, g1, g4, g5, g6, g7, g8, g9, g10]
    clear g0 g1 g4 g5 g6 g7 g8 g9 g10
    have HRq := Lib.hid (HR.out.trans hRq)
    have HS := Lib.hid hS
    have HP := Lib.hid hP
    have HK := Lib.hid hK
    obtain ⟨c0, c1, c2, c3, cf, cz⟩ := hS.all
    obtain ⟨p5, p6, p7, p8, p9, pf⟩ := hP.cells
    have hqs := hI.qs
    have hnq := hI.nq
    have hmn := hI.mn
    have hcl := hI.cl
    have HI := Lib.hid hI
    clear hS hP hK hI hRq HD0
    have hWr : ∀ (W : World) (q : Nat) (x y : Int), Sc W g s q 0 0 → Hid (Calls Tryd.prog 40 #[.pointer (some ⟨g, 0, none⟩), .int .i64 x, .int .i64 y] W fun e w' => e = .returned (.tuple #[]) ∧ Sc w' g s q x y ∧ Keep [g] W w') := fun W q x y hS => wrong_any W g s q 0 x y hS
    by_cases hbad : fr = true ∨ mi = 0
    · have HD : Hid (digitsS s q0 = .error (260, q)) := digitsS_bad HRq.out hbad
      have hbb : fr = true ∨ (fr = false ∧ decide (0 < mi) = false) := by
        cases fr
        · right; exact ⟨rfl, by simp at hbad ⊢; omega⟩
        · exact .inl rfl
      clear hbad
      rcases hbb with hfr | ⟨hfr, hm0⟩ <;> subst hfr
      all_goals
        go_wp2_with (first
          | (go_at_call 40; refine (hWr _ _ _ _ HS.out).out.mono ?_; rintro e w2 ⟨rfl, h1, h2⟩))
        simp only [Exit.jump]
        go_end0
        rw [HD.out]
        exact ⟨rfl, ⟨q, h1⟩, HK.out.trans h2 (fun x hx => .inl (by simp at hx; simp [hx]))⟩
    obtain rfl : fr = false := by cases fr <;> simp_all
    have hm0 : 0 < mi := by omega
    have hm1 : decide (0 < mi) = true := decide_eq_true hm0
    go_upto_block 3 with fail
    go_cut [] (fun wx => Sc wx g s q 0 0 ∧ Pat wx h vp vs vn np ns mi 0 0 (groupsOf n cm).1 (groupsOf n cm).2 ∧ Keep [g, h] w wx)
    case first =>
      have hcb := HI.out.cb
      match cm, hcl, hcb with
      | [], _, _ =>
        simp only [cmFirst, cmLast, List.length_nil]
        go_wp2
        go_meet
        exact ⟨HS.out, HP.out, HK.out⟩
      | [a], _, hcb =>
        have ha := hcb a (by simp)
        obtain ⟨a1, a2⟩ := ha
        clear hcb
        simp only [cmFirst, cmLast, List.length_singleton]
        go_wp2
        go_meet
        exact ⟨Blk.far (Blk.far HS.out hgh _) hgh _, Pat.set9 (Pat.set8 HP.out _ _ rfl) _ _ rfl, (HK.out.setCell (.inl (by simp)) _).setCell (.inl (by simp)) _⟩
      | [a, b], _, hcb =>
        obtain ⟨a1, a2⟩ := hcb a (by simp)
        obtain ⟨b1, b2⟩ := hcb b (by simp)
        clear hcb
        simp only [cmFirst, cmLast, List.length_cons, List.length_nil]
        go_wp2
        go_meet
        exact ⟨Blk.far (Blk.far HS.out hgh _) hgh _, Pat.set9 (Pat.set8 HP.out _ _ rfl) _ _ rfl, (HK.out.setCell (.inl (by simp)) _).setCell (.inl (by simp)) _⟩
      | _ :: _ :: _ :: _, hcl, _ => exact absurd hcl (by simp)
    case rest =>
    obtain ⟨hS, hP, hK⟩ := hcut
    have HNo := Lib.hid (fun hp => digitsS_none HRq.out hbad hp)
    have HPo := Lib.hid (fun hp z hz k hk => digitsS_point HRq.out hbad hp z hz k hk)
    obtain ⟨G, hG⟩ : ∃ G, groupsOf n cm = G := ⟨_, rfl⟩
    obtain ⟨G1, G2⟩ := G
    simp only [hG] at hS hP hK HNo HPo
    have HS2 := Lib.hid hS
    have HP2 := Lib.hid hP
    have HK2 := Lib.hid hK
    clear HS HP HK hG c0 c1 c2 c3 cf cz p5 p6 p7 p8 p9 pf hbad
    obtain ⟨c0, c1, c2, c3, cf, cz⟩ := hS.all
    obtain ⟨p5, p6, p7, p8, p9, pf⟩ := hP.cells
    have HIs : ∀ (W : World) (q' : Nat), Sc W g s q' 0 0 → q' ≤ s.size → Hid (∀ word, Calls Tryd.prog 39 #[.pointer (some ⟨g, 0, none⟩), .string word] W fun x w' => x = .returned (.bool (preB s q' word)) ∧ SameW w' W) := fun W q' hW hq word => (is_any W g s q' 0 0 word hW hq).mono fun _ _ hx => ⟨hx.1, (SameW.refl W).drew hx.2⟩
    clear hS hP hK
    by_cases h46 : isB s q 46
    rotate_left
    · have e46 : preB s q ⟨#[46]⟩ = false := pre_no h46
      have HD := Lib.hid (HNo.out h46)
      clear h46 HNo HPo
      by_cases hn : 64 < n
      · have hn1 : (64 : Int) < n := by omega
        have HD2 : Hid (digitsS s q0 = .error (3, q0)) := by have := HD.out; rw [if_pos hn] at this; exact this
        go_wp2_with (first
          | (go_at_call 39; refine ((HIs _ _ HS2.out hqs).out _).mono ?_; rintro e w5 ⟨rfl, hx⟩; have HX := Lib.hid hx; obtain ⟨b0, b1, b2, b3, bf, bz⟩ := (hx.sc HS2.out).all; clear hx)
          | (go_at_call 40; refine (hWr _ _ _ _ (HX.out.sc HS2.out)).out.mono ?_; rintro e w6 ⟨rfl, h1, h2⟩))
        simp only [Exit.jump]
        go_end0
        rw [HD2.out]
        exact ⟨rfl, ⟨q, h1⟩, HK2.out.trans (HX.out.keep h2) (fun x hx => .inl (by simp at hx; simp [hx]))⟩
      · have hn1 : (n : Int) ≤ 64 := by omega
        have HD2 : Hid (digitsS s q0 = .ok ⟨mi, 0, 0, G1, G2, q⟩) := by have := HD.out; rw [if_neg hn] at this; exact this
        go_wp2_with (first
          | (go_at_call 39; refine ((HIs _ _ HS2.out hqs).out _).mono ?_; rintro e w5 ⟨rfl, hx⟩; have HX := Lib.hid hx; obtain ⟨b0, b1, b2, b3, bf, bz⟩ := (hx.sc HS2.out).all; clear hx))
        simp only [Exit.jump]
        go_end0
        rw [HD2.out]
        exact ⟨rfl, HX.out.sc HS2.out, HX.out.pat HP2.out, HX.out.kept HK2.out⟩
    have e46 : preB s q ⟨#[46]⟩ = true := pre_yes h46
    obtain ⟨Z, hZ⟩ : ∃ Z, runB s 48 (s.size - q) (q + 1) = Z := ⟨_, rfl⟩
    obtain ⟨X, hX⟩ : ∃ X, runB s 35 (s.size - q) (q + 1 + Z) = X := ⟨_, rfl⟩
    have HD := Lib.hid (HPo.out h46 Z hZ X hX)
    have HZ := Lib.hid hZ
    have HX0 := Lib.hid hX
    have hql := h46.1
    clear h46 HNo HPo hZ hX
    go_wp2_with (first
      | (go_at_call 39; refine ((HIs _ _ HS2.out hqs).out _).mono ?_; rintro e w5 ⟨rfl, hx⟩; have HX := Lib.hid hx; obtain ⟨b0, b1, b2, b3, bf, bz⟩ := (hx.sc HS2.out).all; clear hx))
    go_loopg [] (s.size - (q + 1)) (fun k wx => ∃ (q' z' f' : Nat), q' + k = s.size ∧ q' = q + 1 + z' ∧ Sc wx g s q' 0 0 ∧ Pat wx h vp vs vn np ns mi z' z' G1 G2 ∧ Keep [g, h] w wx ∧ z' + runB s 48 f' q' = Z ∧ s.size < q' + f')
    case atStart =>
      have hz1 : ((q : Int) + 1) = ((q + 1 : Nat) : Int) := by omega
      refine ⟨q + 1, 0, s.size - q, by omega, rfl, ?_, Blk.far (HX.out.pat HP2.out) hgh.symm _, (HX.out.kept HK2.out).setCell (.inl (by simp)) _, by rw [HZ.out]; omega, by omega⟩
      rw [hz1]
      exact Sc.place (HX.out.sc HS2.out) _
    case round =>
      obtain ⟨q', z', f', hqk, hq', hS, hP, hK, hr, hf⟩ := hrel
      clear c0 c1 c2 c3 cf cz p5 p6 p7 p8 p9 pf b0 b1 b2 b3 bf bz HX
      obtain ⟨c0, c1, c2, c3, cf, cz⟩ := hS.all
      obtain ⟨p5, p6, p7, p8, p9, pf⟩ := hP.cells
      have HS3 := Lib.hid hS
      have HP3 := Lib.hid hP
      have HK3 := Lib.hid hK
      have HQ3 := Lib.hid hqk
      have HQ' := Lib.hid hq'
      have hq1 : q' ≤ s.size := by omega
      have hz1 : z' ≤ 100000000 := by omega
      have hqz : q + 1 + z' ≤ q' := by omega
      clear hS hP hK hqk hq'
      by_cases h48 : isB s q' 48
      · have e48 : preB s q' ⟨#[48]⟩ = true := pre_yes h48
        have hql' := h48.1
        obtain ⟨f', rfl⟩ : ∃ f'', f' = f'' + 1 := ⟨f' - 1, by omega⟩
        have HN : Hid (z' + 1 + runB s 48 f' (q' + 1) = Z) := by rw [runB_yes h48] at hr; unfold Hid; omega
        clear h48 hr
        go_wp2_with (first
          | (go_at_call 39; refine ((HIs _ _ HS3.out (by omega)).out _).mono ?_; rintro e w5 ⟨rfl, hx⟩; have HX := Lib.hid hx; obtain ⟨b0, b1, b2, b3, bf, bz⟩ := (hx.sc HS3.out).all; obtain ⟨d5, d6, d7, d8, d9, df⟩ := (hx.pat HP3.out).cells; clear hx c0 c1 c2 c3 cf cz p5 p6 p7 p8 p9 pf b0 b2 b3 d8 d9 d5))
        have hn1 : ((q' : Int) + 1) = ((q' + 1 : Nat) : Int) := by omega
        have hn2 : ((z' : Int) + 1) = ((z' + 1 : Nat) : Int) := by omega
        go_roundg (s.size - (q' + 1))
        case measure => have := HQ3.out; omega
        case rel =>
          rw [hn1, hn2]
          exact ⟨q' + 1, z' + 1, f', by have := HQ3.out; omega, by have := HQ'.out; omega, Sc.place (Blk.far (Blk.far (HX.out.sc HS3.out) hgh _) hgh _) _, Blk.far (Pat.set7 (Pat.set6 (HX.out.pat HP3.out) _ _ rfl) _ _ rfl) hgh.symm _, (((HX.out.kept HK3.out).setCell (.inl (by simp)) _).setCell (.inl (by simp)) _).setCell (.inl (by simp)) _, HN.out, by omega⟩
      · have e48 : preB s q' ⟨#[48]⟩ = false := pre_no h48
        have hzZ : z' = Z := by rw [runB_no h48] at hr; omega
        subst hzZ
        clear h48 hr HZ
        go_wp2_with (first
          | (go_at_call 39; refine ((HIs _ _ HS3.out (by omega)).out _).mono ?_; rintro e w5 ⟨rfl, hx⟩; have HX := Lib.hid hx; obtain ⟨b0, b1, b2, b3, bf, bz⟩ := (hx.sc HS3.out).all; obtain ⟨d5, d6, d7, d8, d9, df⟩ := (hx.pat HP3.out).cells; clear hx c0 c1 c2 c3 cf cz p5 p6 p7 p8 p9 pf b0 b2 b3 d8 d9 d5))
        go_loopg [] (s.size - q') (fun k wx => ∃ (q2 x' f2 : Nat), q2 + k = s.size ∧ q2 = q + 1 + z' + x' ∧ Sc wx g s q2 0 0 ∧ Pat wx h vp vs vn np ns mi z' (z' + x' : Nat) G1 G2 ∧ Keep [g, h] w wx ∧ x' + runB s 35 f2 q2 = X ∧ s.size < q2 + f2)
        case atStart => exact ⟨q', 0, s.size - q, by omega, by have := HQ'.out; omega, HX.out.sc HS3.out, HX.out.pat HP3.out, HX.out.kept HK3.out, by rw [HQ'.out, HX0.out]; omega, by omega⟩
        case round =>
          obtain ⟨q2, x', f2, hqk, hq2, hS, hP, hK, hr, hf2⟩ := hrel
          clear b1 bf bz d6 d7 df HX HS3 HP3 HK3 HX0
          obtain ⟨c0, c1, c2, c3, cf, cz⟩ := hS.all
          obtain ⟨p5, p6, p7, p8, p9, pf⟩ := hP.cells
          have HS4 := Lib.hid hS
          have HP4 := Lib.hid hP
          have HK4 := Lib.hid hK
          have HQ4 := Lib.hid hqk
          have HQ2 := Lib.hid hq2
          have hq1' : q2 ≤ s.size := by omega
          have hz2 : z' + x' ≤ 100000000 := by omega
          clear hS hP hK hqk hq2
          by_cases h35 : isB s q2 35
          · have e35 : preB s q2 ⟨#[35]⟩ = true := pre_yes h35
            have hql' := h35.1
            obtain ⟨f2, rfl⟩ : ∃ f'', f2 = f'' + 1 := ⟨f2 - 1, by omega⟩
            have HN : Hid (x' + 1 + runB s 35 f2 (q2 + 1) = X) := by rw [runB_yes h35] at hr; unfold Hid; omega
            clear h35 hr
            go_wp2_with (first
              | (go_at_call 39; refine ((HIs _ _ HS4.out (by omega)).out _).mono ?_; rintro e w5 ⟨rfl, hx⟩; have HX := Lib.hid hx; obtain ⟨b0, b1, b2, b3, bf, bz⟩ := (hx.sc HS4.out).all; obtain ⟨d5, d6, d7, d8, d9, df⟩ := (hx.pat HP4.out).cells; clear hx c0 c1 c2 c3 cf cz p5 p6 p7 p8 p9 pf b0 b2 b3 d8 d9 d5))
            have hn1 : ((q2 : Int) + 1) = ((q2 + 1 : Nat) : Int) := by omega
            have HPx : Hid (∀ W : World, ∀ y : Int, y = ((z' + (x' + 1) : Nat) : Int) → Pat W h vp vs vn np ns mi z' (z' + x' : Nat) G1 G2 → Pat (W.setCell ⟨h, 7, none⟩ (.int .i64 y)) h vp vs vn np ns mi z' (z' + (x' + 1) : Nat) G1 G2) := fun W y hy hp => Pat.set7 hp y _ hy
            go_roundg (s.size - (q2 + 1))
            case measure => have := HQ4.out; omega
            case rel =>
              rw [hn1]
              exact ⟨q2 + 1, x' + 1, f2, by have := HQ4.out; omega, by have := HQ2.out; omega, Sc.place (Blk.far (HX.out.sc HS4.out) hgh _) _, Blk.far (HPx.out _ _ (by omega) (HX.out.pat HP4.out)) hgh.symm _, ((HX.out.kept HK4.out).setCell (.inl (by simp)) _).setCell (.inl (by simp)) _, HN.out, by omega⟩
          · have e35 : preB s q2 ⟨#[35]⟩ = false := pre_no h35
            have hxX : x' = X := by rw [runB_no h35] at hr; omega
            subst hxX
            clear h35 hr
            by_cases h0 : z' + x' = 0
            · have HD2 : Hid (digitsS s q0 = .error (260, q + 1)) := by have := HD.out; rw [if_pos h0] at this; exact this
              have hb0 : (((z' + x' : Nat) : Int) == 0) = true := by rw [h0]; rfl
              have hb1 : ((z' : Int) + x' == 0) = true := by rw [beq_iff_eq]; omega
              have hq3 : q2 = q + 1 := by have := HQ2.out; omega
              subst hq3
              go_wp2_with (first
                | (go_at_call 39; refine ((HIs _ _ HS4.out (by omega)).out _).mono ?_; rintro e w5 ⟨rfl, hx⟩; have HX := Lib.hid hx; obtain ⟨b0, b1, b2, b3, bf, bz⟩ := (hx.sc HS4.out).all; obtain ⟨d5, d6, d7, d8, d9, df⟩ := (hx.pat HP4.out).cells; clear hx c0 c1 c2 c3 cf cz p5 p6 p7 p8 p9 pf b0 b2 b3 d8 d9 d5)
                | (go_at_call 40; refine (hWr _ _ _ _ (HX.out.sc HS4.out)).out.mono ?_; rintro e w6 ⟨rfl, h1, h2⟩))
              simp only [Exit.jump]
              go_end0
              rw [HD2.out]
              exact ⟨rfl, ⟨_, h1⟩, (HX.out.kept HK4.out).trans h2 (fun x hx => .inl (by simp at hx; simp [hx]))⟩
            · have hb0 : (((z' + x' : Nat) : Int) == 0) = false := by rw [beq_eq_false_iff_ne]; omega
              have hb1 : ((z' : Int) + x' == 0) = false := by rw [beq_eq_false_iff_ne]; omega
              by_cases hn : 64 < n ∨ 64 < z' + x'
              · have HD2 : Hid (digitsS s q0 = .error (3, q0)) := by have := HD.out; rw [if_neg h0, if_pos hn] at this; exact this
                have hn2 : (64 : Int) < n ∨ ((n : Int) ≤ 64 ∧ (64 : Int) < (z' : Int) + x') := by omega
                clear hn h0
                rcases hn2 with hn2 | ⟨hn2, hn3⟩
                all_goals
                  go_wp2_with (first
                    | (go_at_call 39; refine ((HIs _ _ HS4.out (by omega)).out _).mono ?_; rintro e w5 ⟨rfl, hx⟩; have HX := Lib.hid hx; obtain ⟨b0, b1, b2, b3, bf, bz⟩ := (hx.sc HS4.out).all; obtain ⟨d5, d6, d7, d8, d9, df⟩ := (hx.pat HP4.out).cells; clear hx c0 c1 c2 c3 cf cz p5 p6 p7 p8 p9 pf b0 b2 b3 d8 d9 d5)
                    | (go_at_call 40; refine (hWr _ _ _ _ (HX.out.sc HS4.out)).out.mono ?_; rintro e w6 ⟨rfl, h1, h2⟩))
                  simp only [Exit.jump]
                  go_end0
                  rw [HD2.out]
                  exact ⟨rfl, ⟨_, h1⟩, (HX.out.kept HK4.out).trans h2 (fun x hx => .inl (by simp at hx; simp [hx]))⟩
              · have HD2 : Hid (digitsS s q0 = .ok ⟨mi, z', z' + x', G1, G2, q + 1 + z' + x'⟩) := by have := HD.out; rw [if_neg h0, if_neg hn] at this; exact this
                have hn2 : (n : Int) ≤ 64 := by omega
                have hn3 : (z' : Int) + x' ≤ 64 := by omega
                clear hn h0
                go_wp2_with (first
                  | (go_at_call 39; refine ((HIs _ _ HS4.out (by omega)).out _).mono ?_; rintro e w5 ⟨rfl, hx⟩; have HX := Lib.hid hx; obtain ⟨b0, b1, b2, b3, bf, bz⟩ := (hx.sc HS4.out).all; obtain ⟨d5, d6, d7, d8, d9, df⟩ := (hx.pat HP4.out).cells; clear hx c0 c1 c2 c3 cf cz p5 p6 p7 p8 p9 pf b0 b2 b3 d8 d9 d5))
                simp only [Exit.jump]
                go_end0
                rw [HD2.out]
                exact ⟨rfl, by have := HX.out.sc HS4.out; rw [HQ2.out] at this; exact this, HX.out.pat HP4.out, HX.out.kept HK4.out⟩
  · intro HF
    go_wp2
    go_loopg [5, 6, 7, 8, 9, 10] (s.size - q0) (fun k s5 s6 s7 s8 s9 s10 wx => ∃ (q n : Nat) (fr : Bool) (cm : List Int) (mi f : Nat), q + k = s.size ∧ DR w g h s q0 vp vs vn np ns s5 s6 s7 s8 s9 s10 wx q n fr cm mi ∧ s.size < q + f ∧ dLoop s f q n fr cm mi = R)
    case atStart => exact ⟨q0, 0, true, [], 0, s.size + 1 - q0, by omega, HD0.out, by omega, HR.out⟩
    case round =>
      obtain ⟨q, n, fr, cm, mi, f, hqk, hA, hf, hr⟩ := hrel
      obtain ⟨rfl, rfl, rfl, rfl, rfl, rfl, hS, hP, hK, hI⟩ := hA
      have HS := Lib.hid hS
      have HP := Lib.hid hP
      have HK := Lib.hid hK
      have HI := Lib.hid hI
      have HQK := Lib.hid hqk
      have HRn := Lib.hid hr
      obtain ⟨c0, c1, c2, c3, cf, cz⟩ := hS.all
      obtain ⟨p5, p6, p7, p8, p9, pf⟩ := hP.cells
      have hqs := hI.qs
      have hnq := hI.nq
      have hmn := hI.mn
      have hcl := hI.cl
      have HIs : ∀ W, SameW W wr → Hid (∀ word, Calls Tryd.prog 39 #[.pointer (some ⟨g, 0, none⟩), .string word] W fun x w' => x = .returned (.bool (preB s q word)) ∧ W.drew = w') := fun W hW word => is_any W g s q 0 0 word (hW.sc HS.out) hqs
      clear hS hP hK hI hqk hr HD0 HR
      by_cases hlt : q < s.size
      · obtain ⟨f, rfl⟩ : ∃ f', f = f' + 1 := ⟨f - 1, by omega⟩
        have hlt' : (q : Int) < s.size := by omega
        have HSn : ∀ (k : Nat) (z : Int), z = ((q + 1 : Nat) : Int) → Sc ((wr.drewN k).setCell ⟨g, 1, none⟩ (.int .i64 z)) g s (q + 1 : Nat) 0 0 := fun k z hz => by subst hz; exact Sc.place (HS.out.drewN k) _
        have HPn : ∀ (k : Nat) (z : Int), Pat ((wr.drewN k).setCell ⟨g, 1, none⟩ (.int .i64 z)) h vp vs vn np ns mi 0 0 0 0 := fun k z => Blk.far (Blk.drewN HP.out k) hgh.symm _
        have HKn : ∀ (k : Nat) (z : Int), Keep [g, h] w ((wr.drewN k).setCell ⟨g, 1, none⟩ (.int .i64 z)) := fun k z => (HK.out.drewN k).setCell (.inl (by simp)) _
        have HSz : ∀ (k : Nat) (y z : Int), y = ((mi + 1 : Nat) : Int) → z = ((q + 1 : Nat) : Int) → Sc (((wr.drewN k).setCell ⟨h, 5, none⟩ (.int .i64 y)).setCell ⟨g, 1, none⟩ (.int .i64 z)) g s (q + 1 : Nat) 0 0 := fun k y z hy hz => by subst hz; exact Sc.place (Blk.far (Blk.drewN HS.out k) hgh _) _
        have HPz : ∀ (k : Nat) (y z : Int), y = ((mi + 1 : Nat) : Int) → Pat (((wr.drewN k).setCell ⟨h, 5, none⟩ (.int .i64 y)).setCell ⟨g, 1, none⟩ (.int .i64 z)) h vp vs vn np ns (mi + 1 : Nat) 0 0 0 0 := fun k y z hy => Blk.far (Pat.set5 (Blk.drewN HP.out k) y _ hy) hgh.symm _
        have HKz : ∀ (k : Nat) (y z : Int), Keep [g, h] w (((wr.drewN k).setCell ⟨h, 5, none⟩ (.int .i64 y)).setCell ⟨g, 1, none⟩ (.int .i64 z)) := fun k y z => ((HK.out.drewN k).setCell (.inl (by simp)) _).setCell (.inl (by simp)) _
        by_cases h35 : isB s q 35
        · have e35 : preB s q ⟨#[35]⟩ = true := pre_yes h35
          have e48 : preB s q ⟨#[48]⟩ = false := pre_no (fun h => by have := h.2; have := h35.2; simp at *; omega)
          have e44 : preB s q ⟨#[44]⟩ = false := pre_no (fun h => by have := h.2; have := h35.2; simp at *; omega)
          by_cases hm : mi = 0
          · subst hm
            have HN : Hid (dLoop s f (q + 1) (n + 1) false cm 0 = R) := by have := HRn.out; rw [dLoop_hash h35 rfl] at this; exact this
            clear h35
            go_upto_region 3 with fail
            go_quiet (fail)
            go_wp2_with (first
              | (go_at_call 39; refine ((HIs _ (by exact ⟨rfl, rfl, rfl, rfl⟩)).out _).mono ?_; rintro e w' ⟨rfl, rfl⟩))
            go_roundg (s.size - (q + 1))
            case measure => have := HQK.out; omega
            case rel => exact ⟨q + 1, n + 1, false, cm, 0, f, by have := HQK.out; omega, ⟨rfl, rfl, rfl, rfl, by go_num, rfl, HSn _ _ (by omega), HPn _ _, HKn _ _, HI.out.digit hlt (by omega)⟩, by omega, HN.out⟩
          · have hm2 : 0 < mi := by omega
            have HX : Hid (R = (q, n, fr, cm, mi)) := by
              have := HRn.out
              rw [dLoop_stop (by intro hc; have := hc.1.2; have := h35.2; omega) (by intro hc; have := hc.2; have := h35.2; omega) (by intro hc; omega)] at this
              exact this.symm
            go_upto_region 3 with fail
            go_quiet (fail)
            go_wp2_with (first
              | (go_at_call 39; refine ((HIs _ (by exact ⟨rfl, rfl, rfl, rfl⟩)).out _).mono ?_; rintro e w' ⟨rfl, rfl⟩))
            go_step3
            refine (⟨rfl, ?_⟩ : (0 : Nat) = 0 ∧ DJ w g h s q0 vp vs vn np ns R _ _)
            exact ⟨rfl, rfl, rfl, rfl, rfl, q, n, _, cm, mi, HX.out, ⟨rfl, (by first | rfl | exact congrArg Value.bool (decide_eq_true hm2).symm), rfl, rfl, rfl, rfl, HS.out.drewN _, HP.out.drewN _, HK.out.drewN _, HI.out⟩⟩
        · have e35 : preB s q ⟨#[35]⟩ = false := pre_no h35
          by_cases h48 : isB s q 48
          · have e48 : preB s q ⟨#[48]⟩ = true := pre_yes h48
            have HN : Hid (dLoop s f (q + 1) (n + 1) false cm (mi + 1) = R) := by have := HRn.out; rw [dLoop_zero h48] at this; exact this
            clear h35 h48
            go_upto_region 3 with fail
            go_quiet (fail)
            go_wp2_with (first
              | (go_at_call 39; refine ((HIs _ (by exact ⟨rfl, rfl, rfl, rfl⟩)).out _).mono ?_; rintro e w' ⟨rfl, rfl⟩))
            go_roundg (s.size - (q + 1))
            case measure => have := HQK.out; omega
            case rel => exact ⟨q + 1, n + 1, false, cm, mi + 1, f, by have := HQK.out; omega, ⟨rfl, by simp, rfl, rfl, by go_num, rfl, HSz _ _ _ (by omega) (by omega), HPz _ _ _ (by omega), HKz _ _ _, HI.out.digit hlt (by omega)⟩, by omega, HN.out⟩
          · have e48 : preB s q ⟨#[48]⟩ = false := pre_no h48
            by_cases h44 : isB s q 44
            · have e44 : preB s q ⟨#[44]⟩ = true := pre_yes h44
              cases fr
              · by_cases hc2 : cm.length < 2
                · have hc2i : (cm.length : Int) < 2 := by omega
                  have HN : Hid (dLoop s f (q + 1) n true (cm ++ [(n : Int)]) mi = R) := by have := HRn.out; rw [dLoop_comma h44 rfl hc2] at this; exact this
                  have HCm := Lib.hid (cm_next cm n hc2)
                  clear h35 h48 h44
                  go_upto_region 3 with fail
                  go_quiet (fail)
                  go_wp2_with (first
                    | (go_at_call 39; refine ((HIs _ (by exact ⟨rfl, rfl, rfl, rfl⟩)).out _).mono ?_; rintro e w' ⟨rfl, rfl⟩))
                  go_roundg (s.size - (q + 1))
                  case measure => have := HQK.out; omega
                  case rel => exact ⟨q + 1, n, true, cm ++ [(n : Int)], mi, f, by have := HQK.out; omega, ⟨by rw [List.length_append]; go_num, rfl, by rw [HCm.out.1], by rw [HCm.out.2], rfl, rfl, HSn _ _ (by omega), HPn _ _, HKn _ _, HI.out.comma hlt hc2⟩, by omega, HN.out⟩
                · have hc2i : ¬ (cm.length : Int) < 2 := by omega
                  have hc2d : decide ((cm.length : Int) < 2) = false := by simp; omega
                  have HX : Hid (R = (q, n, false, cm, mi)) := by
                    have := HRn.out
                    rw [dLoop_stop (by intro hc; omega) (by exact h48) (by intro hc; exact h35 hc.2)] at this
                    exact this.symm
                  go_upto_region 3 with fail
                  go_quiet (fail)
                  go_wp2_with (first
                    | (go_at_call 39; refine ((HIs _ (by exact ⟨rfl, rfl, rfl, rfl⟩)).out _).mono ?_; rintro e w' ⟨rfl, rfl⟩))
                  go_step3
                  refine (⟨rfl, ?_⟩ : (0 : Nat) = 0 ∧ DJ w g h s q0 vp vs vn np ns R _ _)
                  exact ⟨rfl, rfl, rfl, rfl, rfl, q, n, _, cm, mi, HX.out, ⟨rfl, (by first | rfl | exact congrArg Value.bool (decide_eq_true hm2).symm), rfl, rfl, rfl, rfl, HS.out.drewN _, HP.out.drewN _, HK.out.drewN _, HI.out⟩⟩
              · skip
                have HX : Hid (R = (q, n, true, cm, mi)) := by
                  have := HRn.out
                  rw [dLoop_stop (by intro hc; exact absurd hc.2.1 (by simp)) (by exact h48) (by intro hc; exact h35 hc.2)] at this
                  exact this.symm
                go_upto_region 3 with fail
                go_quiet (fail)
                go_wp2_with (first
                  | (go_at_call 39; refine ((HIs _ (by exact ⟨rfl, rfl, rfl, rfl⟩)).out _).mono ?_; rintro e w' ⟨rfl, rfl⟩))
                go_step3
                refine (⟨rfl, ?_⟩ : (0 : Nat) = 0 ∧ DJ w g h s q0 vp vs vn np ns R _ _)
                exact ⟨rfl, rfl, rfl, rfl, rfl, q, n, _, cm, mi, HX.out, ⟨rfl, (by first | rfl | exact congrArg Value.bool (decide_eq_true hm2).symm), rfl, rfl, rfl, rfl, HS.out.drewN _, HP.out.drewN _, HK.out.drewN _, HI.out⟩⟩
            · have e44 : preB s q ⟨#[44]⟩ = false := pre_no h44
              have HX : Hid (R = (q, n, fr, cm, mi)) := by
                have := HRn.out
                rw [dLoop_stop (by intro hc; exact h44 hc.1) (by exact h48) (by intro hc; exact h35 hc.2)] at this
                exact this.symm
              go_upto_region 3 with fail
              go_quiet (fail)
              go_wp2_with (first
                | (go_at_call 39; refine ((HIs _ (by exact ⟨rfl, rfl, rfl, rfl⟩)).out _).mono ?_; rintro e w' ⟨rfl, rfl⟩))
              go_step3
              refine (⟨rfl, ?_⟩ : (0 : Nat) = 0 ∧ DJ w g h s q0 vp vs vn np ns R _ _)
              exact ⟨rfl, rfl, rfl, rfl, rfl, q, n, _, cm, mi, HX.out, ⟨rfl, (by first | rfl | exact congrArg Value.bool (decide_eq_true hm2).symm), rfl, rfl, rfl, rfl, HS.out.drewN _, HP.out.drewN _, HK.out.drewN _, HI.out⟩⟩
      · have hd : decide ((q : Int) < s.size) = false := by simp; omega
        have hd2 : decide (q < s.size) = false := by simp; omega
        have HX : Hid (R = (q, n, fr, cm, mi)) := by
          have := HRn.out
          obtain ⟨f', hf'⟩ : ∃ f', f = f' + 1 := ⟨f - 1, by omega⟩
          rw [hf', dLoop_stop (fun hc => hlt hc.1.1) (fun hc => hlt hc.1) (fun hc => hlt hc.2.1)] at this
          exact this.symm
        go_upto_region 3 with fail
        go_quiet (fail)
        go_wp2
        go_step3
        simp only [Exit.then]
        apply_assumption
        refine HF.out _ _ ⟨rfl, rfl, rfl, rfl, rfl, q, n, fr, cm, mi, HX.out, ⟨rfl, rfl, rfl, rfl, rfl, rfl, HS.out.drewN _, HP.out.drewN _, HK.out.drewN _, HI.out⟩⟩
end Go.Proofs.YtkkglaglnfebjaaDoor
