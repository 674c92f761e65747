/- Walks: the law NumPatGroups. -/
import Derived.Test.YtkkglaglnfebjaaDoorWLPieces
import Derived.Test.YtkkglaglnfebjaaDoorWRGroups
import Derived.Test.YtkkglaglnfebjaaDoorWCopied
import Derived.Test.YtkkglaglnfebjaaDoorWRRight2
namespace Go.Proofs.YtkkglaglnfebjaaDoor
open Go.RowKit Go.IntWalk

theorem rright_any (w : World) (v1 v2 v3 v4 : Value) (p : PatD) (hp : RdP w v1 v2 v3 v4 p) (hsz : PatSz p) :
    Calls Tryd.prog 19 #[patV v1 v2 v3 v4 p] w fun e w' => e = .returned (.bool (rightB p)) ∧ Keep [] w w' := by
  cases h : (numsB p && (p.neg || (p.npre.isEmpty && p.nsuf.isEmpty)))
  · exact rright_no w v1 v2 v3 v4 p hp hsz h
  · exact rright_yes w v1 v2 v3 v4 p hp hsz h
theorem cut_nil {A1 A2 A3 A4 : Option Addr} {n1 n2 n3 n4 k1 k2 k3 k4 : Nat} (h : NilP (.slice A1 n1 k1) (.slice A2 n2 k2) (.slice A3 n3 k3) (.slice A4 n4 k4)) :
    NilP (.slice A1 (min n1 30) k1) (.slice A2 (min n2 30) k2) (.slice A3 (min n3 30) k3) (.slice A4 (min n4 30) k4) := by
  have key : ∀ A n k, NilOK (.slice A n k) → NilOK (.slice A (min n 30) k) := fun A n k h n' c he => by
    injection he with e1 e2 e3
    subst e1
    have := h n k rfl
    omega
  exact ⟨key _ _ _ h.1, key _ _ _ h.2.1, key _ _ _ h.2.2.1, key _ _ _ h.2.2.2⟩

theorem nilP_of {A1 A2 A3 A4 : Option Addr} {n1 n2 n3 n4 k1 k2 k3 k4 : Nat} (h1 : A1 = none → n1 = 0 ∧ k1 = 0) (h2 : A2 = none → n2 = 0 ∧ k2 = 0) (h3 : A3 = none → n3 = 0 ∧ k3 = 0) (h4 : A4 = none → n4 = 0 ∧ k4 = 0) :
    NilP (.slice A1 n1 k1) (.slice A2 n2 k2) (.slice A3 n3 k3) (.slice A4 n4 k4) := by
  have key : ∀ A n k, (A = none → n = 0 ∧ k = 0) → NilOK (.slice A n k) := fun A n k h n' c he => by
    injection he with e1 e2 e3
    subst e1 e2 e3
    exact h rfl
  exact ⟨key _ _ _ h1, key _ _ _ h2, key _ _ _ h3, key _ _ _ h4⟩
theorem groupsL_ne (p : PatD) (s : ByteArray) (least : Int) : groupsL p s least ≠ [] := by
  unfold groupsL
  split
  · simp
  · intro h
    have := congrArg List.length h
    simp at this

set_option maxRecDepth 100000 in
set_option maxHeartbeats 2000000 in
theorem law_groups {B : Nat} (w : World) (hE : Env B w) (A1 A2 A3 A4 : Option Addr) (n1 n2 n3 n4 k1 k2 k3 k4 : Nat) (p : PatD) (s : ByteArray) (least : Int) (hp : RdP w (.slice A1 n1 k1) (.slice A2 n2 k2) (.slice A3 n3 k3) (.slice A4 n4 k4) p) (hn : NilP (.slice A1 n1 k1) (.slice A2 n2 k2) (.slice A3 n3 k3) (.slice A4 n4 k4)) (hsz : TxtSz p) (hs : s.size ≤ 9223372036854775000) :
    Calls Tryd.prog 6 #[patV (.slice A1 n1 k1) (.slice A2 n2 k2) (.slice A3 n3 k3) (.slice A4 n4 k4) p, .string s, .int .i64 least] w fun e w' => e = .returned (.bool true) ∧ Keep [] w w' := by
  have HE := Lib.hid hE
  have HP := Lib.hid hp
  have HN := Lib.hid (cut_nil hn)
  have HSz := Lib.hid hsz.cut
  have HB0 := Lib.hid (PatAt.new w (.slice A1 n1 k1) (.slice A2 n2 k2) (.slice A3 n3 k3) (.slice A4 n4 k4) p)
  have HWk := Lib.hid (wakes_any (w.alloc (boxP (.slice A1 n1 k1) (.slice A2 n2 k2) (.slice A3 n3 k3) (.slice A4 n4 k4) p)) (hE.below ((Below.refl B w).alloc hE.le _)))
  clear hE hp hsz hn
  unfold boxP at HB0 HWk
  simp only [patV]
  go_enter Tryd.func6, Tryd.ntmps6
  go_upto_region 3 with (go_at_call 10; refine HWk.out.mono ?_; rintro e w1 ⟨rfl, hk1⟩)
  have HK1 := Lib.hid (((Keep.refl [] w).alloc _).nil hk1)
  have HB1 := Lib.hid (HB0.out.keep hk1 (by simp))
  have HP1 := Lib.hid (HP.out.keep_nil HK1.out)
  obtain ⟨p0, p1, p2, p3, p4, p5, p6, p7, p8, p9, pf, pz⟩ := HB1.out.all
  clear hk1 HB0 HWk HE
  obtain ⟨m, hm, hm2⟩ := min_nat500 s.size
  have hms : m ≤ s.size := by omega
  have hms2 : (m : Int) ≤ s.size := by omega
  have hm5 : m ≤ 500 := by omega
  have HM2 := Lib.hid hm2
  clear hm2
  have hC := Lib.hid (cut_any w1.drew A1 A2 A3 A4 n1 n2 n3 n4 k1 k2 k3 k4 p (HP.out.keep_nil HK1.out.drew))
  go_cut [1] (fun s1 wx => s1 = .string (s.extract 0 m) ∧ PatAt wx w.heap.size (.slice A1 (min n1 30) k1) (.slice A2 (min n2 30) k2) (.slice A3 (min n3 30) k3) (.slice A4 (min n4 30) k4) (cutD p) ∧ Keep [] w wx)
  case first =>
    simp only [patV] at hC
    go_region_with (go_at_call 15; refine hC.out.mono ?_; rintro e w2 ⟨rfl, hk2⟩; have HB2 := Lib.hid ((HB1.out.drewN 1).keep hk2 (by simp)); have HK2 := Lib.hid (HK1.out.drew.nil hk2); obtain ⟨q0, q1, q2, q3, q4, q5, q6, q7, q8, q9, qf, qz⟩ := HB2.out.all; clear hk2)
    all_goals
      go_wp2_with fail
      go_meet
      refine ⟨rfl, HB2.out.store _ _ _ _ _, ?_⟩
      repeat (refine Keep.setCell ?_ (.inr (Nat.le_refl _)) _)
      exact HK2.out
  case rest =>
    obtain ⟨rfl, hB2, hK2⟩ := hcut
    have HB2 := Lib.hid hB2
    have HK2 := Lib.hid hK2
    have HP2 := Lib.hid (HP.out.keep_nil hK2).cut
    have ht : (s.extract 0 m).size ≤ 500 := by rw [ext_size _ _ _ hms]; omega
    clear hB2 hK2 hC HB1 HK1 HP1 p0 p1 p2 p3 p4 p5 p6 p7 p8 p9 pf pz hm HM2 hms hms2 hm5
    generalize s.extract 0 m = t at *
    obtain ⟨p0, p1, p2, p3, p4, p5, p6, p7, p8, p9, pf, pz⟩ := HB2.out.all
    have HCp := Lib.hid (copied_any wc _ _ _ _ (cutD p) HP2.out HN.out HSz.out)
    simp only [patV] at HCp
    go_wp2_with fail
    refine HCp.out.mono ?_
    rintro e w3 ⟨u1, u2, u3, u4, rfl, hR3, hN3, hK3⟩
    have HG := Lib.hid (groups_any w3 u1 u2 u3 u4 (cutD p) t least hR3 HSz.out ht)
    have HK3 := Lib.hid (HK2.out.nil hK3)
    have HB3 := Lib.hid (HB2.out.keep hK3 (by simp))
    have HRt : ∀ W, Keep [] w3 W → Hid (Calls Tryd.prog 19 #[patV (.slice A1 (min n1 30) k1) (.slice A2 (min n2 30) k2) (.slice A3 (min n3 30) k3) (.slice A4 (min n4 30) k4) (cutD p)] W fun e w' => e = .returned (.bool (rightB (cutD p))) ∧ Keep [] W w') := fun W hk => rright_any W _ _ _ _ (cutD p) (HP2.out.keep_nil (hK3.nil hk)) HSz.out
    have HDg : ∀ W, Hid (Calls Tryd.prog 25 #[.string t] W fun e w' => e = .returned (.bool (digsB t)) ∧ W = w') := fun W => rdigits_any t W (by omega)
    clear hR3 hN3 hK3 p0 p1 p2 p3 p4 p5 p6 p7 p8 p9 pf pz HCp
    by_cases hcnd : rightB (cutD p) = true ∧ digsB t = true ∧ 0 ≤ least
    · have HG1 := HG.out
      rw [if_pos hcnd] at HG1
      obtain ⟨hr, hd, hle⟩ := hcnd
      obtain ⟨_, ng⟩ := right_nums _ hr
      have ng0 : (cutD p).g = 0 ∧ (cutD p).g2 = 0 ∨ 1 ≤ (cutD p).g ∧ (cutD p).g ≤ 63 ∧ 1 ≤ (cutD p).g2 ∧ (cutD p).g2 ≤ 63 := by omega
      obtain ⟨q, hq⟩ : ∃ q, min least 1000 = q := ⟨_, rfl⟩
      have HW : ∀ W, Hid (Calls Tryd.prog 26 #[patV (.slice A1 (min n1 30) k1) (.slice A2 (min n2 30) k2) (.slice A3 (min n3 30) k3) (.slice A4 (min n4 30) k4) (cutD p), .string t, .int .i64 q] W fun e w' => ∃ v, e = .returned v ∧ RdS w' v (groupsL (cutD p) t least) ∧ Keep [] W w') := fun W => by
        rw [groupsL_least _ _ _ (by omega) ht hle, hq]
        exact rgroups_any W _ _ _ _ (cutD p) t q ng0 ht (by omega) (by omega)
      have hlen := groupsL_len (cutD p) t least hr
      have hne := groupsL_ne (cutD p) t least
      rw [hr] at HRt
      rw [hd] at HDg
      generalize groupsL (cutD p) t least = L at *
      have HGL := Lib.hid HG1
      have hlen2 : L.length ≤ 1000 := by omega
      obtain ⟨M, hM⟩ : ∃ M, L.length = M := ⟨_, rfl⟩
      simp only [patV] at HGL HRt HW
      have hlt : ¬ least < 0 := by omega
      clear HG HG1 ng ng0 hr hd hlen
      go_wp2_with fail
      refine HGL.out.mono ?_
      rintro e w4 ⟨v, rfl, hv, hk4⟩
      have HR4 := HRt w4 hk4
      have HK4 := Lib.hid (HK3.out.nil hk4)
      have HB4 := Lib.hid (HB3.out.keep hk4 (by simp))
      obtain ⟨A, cap, rfl, hcap1, hcap2, hcells⟩ := hv
      obtain ⟨g, o, rfl, hgl, hcell⟩ := hcells hne
      have HC := Lib.hid hcell
      rw [hM] at hcap1 hlen2 ⊢
      unfold maxLen at hcap2
      clear hk4 hcells hcell HGL HRt
      obtain ⟨p0, p1, p2, p3, p4, p5, p6, p7, p8, p9, pf, pz⟩ := HB4.out.all
      go_wp2_with fail
      refine HR4.out.mono ?_
      rintro e w5 ⟨rfl, hk5⟩
      have HK5 := Lib.hid (HK4.out.nil hk5)
      have HB5 := Lib.hid (HB4.out.keep hk5 (by simp))
      have HC5 : Hid (∀ j x, L[j]? = some x → w5.cell? ⟨g, o + j, none⟩ = some (.string x)) := fun j x hx => (hk5.cell (p := ⟨g, o + j, none⟩) hgl (by simp)).trans (HC.out j x hx)
      have hgl5 : g < w5.heap.size := Nat.lt_of_lt_of_le hgl hk5.size
      have HW5 := HW w5
      clear hk5 HC hgl HW p0 p1 p2 p3 p4 p5 p6 p7 p8 p9 pf pz
      obtain ⟨p0, p1, p2, p3, p4, p5, p6, p7, p8, p9, pf, pz⟩ := HB5.out.all
      go_wp2_with (first | (go_at_call 25; refine (HDg _).out.mono ?_; rintro e w' ⟨rfl, rfl⟩) | (go_at_call 26; refine HW5.out.mono ?_; rintro e w6 ⟨v6, rfl, hv6, hk6⟩; obtain ⟨A6, cap6, rfl, hcap6, hcap7, hcells6⟩ := hv6; obtain ⟨g6, o6, rfl, hgl6, hcell6⟩ := hcells6 hne; rw [hM] at hcap6 ⊢; unfold maxLen at hcap7; have HK6 := Lib.hid (HK5.out.nil hk6); have HC6 : Hid (∀ j x, L[j]? = some x → w6.cell? ⟨g, o + j, none⟩ = some (.string x)) := (fun j x hx => (hk6.cell (p := ⟨g, o + j, none⟩) hgl5 (by simp)).trans (HC5.out j x hx)); have HD6 := Lib.hid hcell6; clear hk6 hcells6 hcell6 p0 p1 p2 p3 p4 p5 p6 p7 p8 p9 pf pz))
      have HM := Lib.hid hM
      have hM2 := Lib.hid hne
      clear hne hM HR4 HDg HW5 HC5 HB5 HB4 HB3 HB2 HP2
      go_loopg [63] M (fun k s63 wx => ∃ m : Nat, m + k = M ∧ s63 = .int .i64 m ∧ (∀ j x, L[j]? = some x → wx.cell? ⟨g, o + j, none⟩ = some (.string x)) ∧ (∀ j x, L[j]? = some x → wx.cell? ⟨g6, o6 + j, none⟩ = some (.string x)) ∧ Keep [] w wx)
      case atStart => exact ⟨0, by omega, rfl, HC6.out, HD6.out, HK6.out⟩
      case round =>
        obtain ⟨m, hm, rfl, h1, h2, h3⟩ := hrel
        have Hm := Lib.hid hm
        have H1 := Lib.hid h1
        have H2 := Lib.hid h2
        have H3 := Lib.hid h3
        have hm4 : m ≤ M := by omega
        by_cases hlt2 : m < M
        · obtain ⟨x, hx⟩ : ∃ x, L[m]? = some x := ⟨_, List.getElem?_eq_getElem (by rw [HM.out]; omega)⟩
          have d1 := h1 m x hx
          have d2 := h2 m x hx
          clear h1 h2 h3 hm hx
          go_upto_region 13 with fail
          go_quiet (fail)
          go_wp2
          go_roundg (gk - 1)
          case measure => have := Hm.out; omega
          case rel => exact ⟨m + 1, by have := Hm.out; omega, by go_num, H1.out, H2.out, H3.out.drewN _⟩
        · have hmM : m = M := by omega
          subst hmM
          clear h1 h2 h3 hm
          go_wp2
          go_ret
          exact ⟨rfl, H3.out⟩
    · have HG1 := HG.out
      rw [if_neg hcnd] at HG1
      have HGL := Lib.hid HG1
      simp only [patV] at HGL HRt
      have HX : Hid (¬ (rightB (cutD p) = true ∧ digsB t = true ∧ 0 ≤ least)) := hcnd
      clear HG HG1 hcnd
      go_wp2_with fail
      refine HGL.out.mono ?_
      rintro e w4 ⟨v, rfl, hv, hk4⟩
      have HR4 := HRt w4 hk4
      have HK4 := Lib.hid (HK3.out.nil hk4)
      have HB4 := Lib.hid (HB3.out.keep hk4 (by simp))
      obtain ⟨A, cap, rfl, _, _, _⟩ := hv
      clear hk4 HGL HRt
      obtain ⟨p0, p1, p2, p3, p4, p5, p6, p7, p8, p9, pf, pz⟩ := HB4.out.all
      go_wp2_with fail
      refine HR4.out.mono ?_
      rintro e w5 ⟨rfl, hk5⟩
      have HK5 := Lib.hid (HK4.out.nil hk5)
      clear hk5 HR4
      have hX := HX.out
      cases hr : rightB (cutD p)
      · clear hX hr HX
        go_wp2
        go_ret
        exact ⟨rfl, HK5.out⟩
      · rw [hr] at hX
        cases hd : digsB t
        · rw [hd] at HDg
          clear hX hr hd HX
          go_wp2_with (go_at_call 25; refine (HDg _).out.mono ?_; rintro e w' ⟨rfl, rfl⟩)
          go_ret
          exact ⟨rfl, HK5.out⟩
        · rw [hd] at HDg hX
          have hl : least < 0 := by
            rcases Int.lt_or_le least 0 with h | h
            · exact h
            · exact absurd ⟨rfl, rfl, h⟩ hX
          clear hX hr hd HX
          go_wp2_with (go_at_call 25; refine (HDg _).out.mono ?_; rintro e w' ⟨rfl, rfl⟩)
          go_ret
          exact ⟨rfl, HK5.out⟩
end Go.Proofs.YtkkglaglnfebjaaDoor
