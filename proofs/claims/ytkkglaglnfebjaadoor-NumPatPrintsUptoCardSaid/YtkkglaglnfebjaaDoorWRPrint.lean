/- Walks: the reference's Print. -/
import Derived.Test.YtkkglaglnfebjaaDoorWShape
import Derived.Test.YtkkglaglnfebjaaDoorWLGroups
import Derived.Deep.RegionHeld3
namespace Go.Proofs.YtkkglaglnfebjaaDoor
open Go.RowKit Go.IntWalk

theorem rprint_no (w : World) (v1 v2 v3 v4 : Value) (p : PatD) (hr : rightB p = false) (hp : RdP w v1 v2 v3 v4 p) (hsz : PatSz p) :
    Calls Tryd.prog 18 #[patV v1 v2 v3 v4 p] w fun e w' => e = .returned (.tuple #[.string ⟨#[]⟩, .int .i64 2]) ∧ Keep [] w w' := by
  have HR : ∀ W, Keep [] w W → Hid (Calls Tryd.prog 19 #[patV v1 v2 v3 v4 p] W fun e w' => e = .returned (.bool (rightB p)) ∧ Keep [] W w') := fun W hk => rright_any W _ _ _ _ p (hp.keep_nil hk) hsz
  have HB0 := Lib.hid (PatAt.new w v1 v2 v3 v4 p)
  have HR0 := HR _ ((Keep.refl [] w).alloc (boxP v1 v2 v3 v4 p))
  rw [hr] at HR0
  obtain ⟨A1, k1, rfl, -⟩ := hp.pre
  obtain ⟨A2, k2, rfl, -⟩ := hp.suf
  obtain ⟨A3, k3, rfl, -⟩ := hp.npre
  obtain ⟨A4, k4, rfl, -⟩ := hp.nsuf
  clear hp hr hsz HR
  unfold boxP at HB0 HR0
  simp only [patV] at *
  go_enter Tryd.func18, Tryd.ntmps18
  go_wp2_with fail
  refine HR0.out.mono ?_
  rintro e w2 ⟨rfl, hk⟩
  have HK := Lib.hid (((Keep.refl [] w).alloc _).nil hk)
  clear hk HR0
  go_wp2
  go_ret2
  exact ⟨rfl, HK.out⟩
/-- The text that is put together. -/
def catP (neg : Bool) (x1 xs x2 x3 x4 : ByteArray) : ByteArray := if neg then (x1 ++ xs) ++ x2 ++ (((⟨#[59]⟩ : ByteArray) ++ x3) ++ ⟨#[48]⟩ ++ x4) else (x1 ++ xs) ++ x2
set_option maxRecDepth 100000 in
set_option maxHeartbeats 4000000 in
theorem rprint_yes (w : World) (v1 v2 v3 v4 : Value) (p : PatD) (x1 xs x2 x3 x4 : ByteArray) (hr : rightB p = true) (hp : RdP w v1 v2 v3 v4 p) (hsz : PatSz p)
    (h1 : ∀ W, Keep [] w W → Calls Tryd.prog 51 #[v1] W fun e w' => e = .returned (.string x1) ∧ Keep [] W w')
    (h2 : ∀ W, Keep [] w W → Calls Tryd.prog 51 #[v2] W fun e w' => e = .returned (.string x2) ∧ Keep [] W w')
    (h3 : ∀ W, Keep [] w W → Calls Tryd.prog 51 #[v3] W fun e w' => e = .returned (.string x3) ∧ Keep [] W w')
    (h4 : ∀ W, Keep [] w W → Calls Tryd.prog 51 #[v4] W fun e w' => e = .returned (.string x4) ∧ Keep [] W w')
    (hs : ∀ W, Keep [] w W → Calls Tryd.prog 52 #[patV v1 v2 v3 v4 p] W fun e w' => e = .returned (.string xs) ∧ Keep [] W w')
    (hx1 : x1.size ≤ 1000000000000) (hx2 : x2.size ≤ 1000000000000) (hx3 : x3.size ≤ 1000000000000) (hx4 : x4.size ≤ 1000000000000) (hxs : xs.size ≤ 1000000000000) :
    Calls Tryd.prog 18 #[patV v1 v2 v3 v4 p] w fun e w' => e = .returned (.tuple #[.string (if 4096 < (catP p.neg x1 xs x2 x3 x4).size then ⟨#[]⟩ else catP p.neg x1 xs x2 x3 x4), .int .i64 (if 4096 < (catP p.neg x1 xs x2 x3 x4).size then 3 else 0)]) ∧ Keep [] w w' := by
  have HR : ∀ W, Keep [] w W → Hid (Calls Tryd.prog 19 #[patV v1 v2 v3 v4 p] W fun e w' => e = .returned (.bool (rightB p)) ∧ Keep [] W w') := fun W hk => rright_any W _ _ _ _ p (hp.keep_nil hk) hsz
  have HB0 := Lib.hid (PatAt.new w v1 v2 v3 v4 p)
  have HR0 := HR _ ((Keep.refl [] w).alloc (boxP v1 v2 v3 v4 p))
  rw [hr] at HR0
  have H1 : ∀ W, Keep [] w W → Hid _ := fun W hk => Lib.hid (h1 W hk)
  have H2 : ∀ W, Keep [] w W → Hid _ := fun W hk => Lib.hid (h2 W hk)
  have H3 : ∀ W, Keep [] w W → Hid _ := fun W hk => Lib.hid (h3 W hk)
  have H4 : ∀ W, Keep [] w W → Hid _ := fun W hk => Lib.hid (h4 W hk)
  have HS : ∀ W, Keep [] w W → Hid _ := fun W hk => Lib.hid (hs W hk)
  obtain ⟨OUT, hOUT⟩ : ∃ O, (if 4096 < (catP p.neg x1 xs x2 x3 x4).size then (⟨#[]⟩ : ByteArray) else catP p.neg x1 xs x2 x3 x4) = O := ⟨_, rfl⟩
  obtain ⟨ERR, hERR⟩ : ∃ O : Int, (if 4096 < (catP p.neg x1 xs x2 x3 x4).size then (3 : Int) else 0) = O := ⟨_, rfl⟩
  have HO : Hid (∀ T, catP p.neg x1 xs x2 x3 x4 = T → (if 4096 < T.size then (⟨#[]⟩ : ByteArray) else T) = OUT ∧ (if 4096 < T.size then (3 : Int) else 0) = ERR) := fun T hT => by subst hT; exact ⟨hOUT, hERR⟩
  rw [hOUT, hERR]
  clear hOUT hERR
  have hA : ∀ a b : ByteArray, a.size + b.size ≤ 9223372036854775807 → Hid (∀ W, (Op.stringOp .add a b).run Tryd.prog W = .ok (.string (a ++ b)) W) := fun a b h W => run_string_add_sum W _ _ h
  obtain ⟨A1, k1, rfl, -⟩ := hp.pre
  obtain ⟨A2, k2, rfl, -⟩ := hp.suf
  obtain ⟨A3, k3, rfl, -⟩ := hp.npre
  obtain ⟨A4, k4, rfl, -⟩ := hp.nsuf
  clear hp hr hsz HR h1 h2 h3 h4 hs
  unfold boxP at HB0 HR0
  simp only [patV] at *
  have y1 := (hA x1 xs (by omega)).out
  have y2 := (hA (x1 ++ xs) x2 (by rw [ByteArray.size_append]; omega)).out
  go_enter Tryd.func18, Tryd.ntmps18
  go_upto_region 3 with (go_at_call 19; refine HR0.out.mono ?_; rintro e w2 ⟨rfl, hk⟩)
  have HK2 := Lib.hid (((Keep.refl [] w).alloc _).nil hk)
  have HB2 := Lib.hid (HB0.out.keep hk (by simp))
  obtain ⟨p0, p1, p2, p3, p4, p5, p6, p7, p8, p9, pf, pz⟩ := HB2.out.all
  clear hk HB0 HR0
  go_cut [4] (fun s4 wx => s4 = .string (x1 ++ xs ++ x2) ∧ PatAt wx w.heap.size (.slice A1 p.pre.length k1) (.slice A2 p.suf.length k2) (.slice A3 p.npre.length k3) (.slice A4 p.nsuf.length k4) p ∧ Keep [] w wx)
  case first =>
    go_region_held3 (fun W => W.cell? ⟨w.heap.size, 0, none⟩ = some (.slice A1 p.pre.length k1) ∧ W.cell? ⟨w.heap.size, 1, none⟩ = some (.slice A2 p.suf.length k2) ∧ W.cell? ⟨w.heap.size, 2, none⟩ = some (.bool p.neg) ∧ W.cell? ⟨w.heap.size, 3, none⟩ = some (.slice A3 p.npre.length k3) ∧ W.cell? ⟨w.heap.size, 4, none⟩ = some (.slice A4 p.nsuf.length k4) ∧ W.cell? ⟨w.heap.size, 5, none⟩ = some (.int .i64 p.mi) ∧ W.cell? ⟨w.heap.size, 6, none⟩ = some (.int .i64 p.mf) ∧ W.cell? ⟨w.heap.size, 7, none⟩ = some (.int .i64 p.xf) ∧ W.cell? ⟨w.heap.size, 8, none⟩ = some (.int .i64 p.g) ∧ W.cell? ⟨w.heap.size, 9, none⟩ = some (.int .i64 p.g2)) (first | exact ⟨p0, p1, p2, p3, p4, p5, p6, p7, p8, p9⟩ | exact ⟨m0, m1, m2, m3, m4, m5, m6, m7, m8, m9⟩ | exact ⟨j0, j1, j2, j3, j4, j5, j6, j7, j8, j9⟩ | exact ⟨k0, k1, k2, k3, k4, k5, k6, k7, k8, k9⟩) (first | (go_at_call_of 51 (Value.slice A1 p.pre.length k1); refine (H1 _ HK2.out.drew).out.mono ?_; rintro e w3 ⟨rfl, hk⟩; have HK3 := Lib.hid (Keep.nil (HK2.out.drew) hk); have HB3 := Lib.hid (PatAt.keep (HB2.out.drewN 1) hk (by simp)); obtain ⟨m0, m1, m2, m3, m4, m5, m6, m7, m8, m9, mf, mz⟩ := HB3.out.all; clear hk) | (go_at_call 52; refine (HS _ HK3.out).out.mono ?_; rintro e w4 ⟨rfl, hk⟩; have HK4 := Lib.hid (Keep.nil (HK3.out) hk); have HB4 := Lib.hid (PatAt.keep (HB3.out) hk (by simp)); obtain ⟨j0, j1, j2, j3, j4, j5, j6, j7, j8, j9, jf, jz⟩ := HB4.out.all; clear hk) | (go_at_call_of 51 (Value.slice A2 p.suf.length k2); refine (H2 _ HK4.out).out.mono ?_; rintro e w5 ⟨rfl, hk⟩; have HK5 := Lib.hid (Keep.nil (HK4.out) hk); have HB5 := Lib.hid (PatAt.keep (HB4.out) hk (by simp)); obtain ⟨k0, k1, k2, k3, k4, k5, k6, k7, k8, k9, kf, kz⟩ := HB5.out.all; clear hk))
    all_goals
      go_wp2
      go_meet
      exact ⟨rfl, HB5.out, HK5.out⟩
  case rest =>
    obtain ⟨rfl, hB, hK⟩ := hcut
    have HB := Lib.hid hB
    have HK := Lib.hid hK
    obtain ⟨p0, p1, p2, p3, p4, p5, p6, p7, p8, p9, pf, pz⟩ := hB.all
    clear hB hK p0 p1 p2 p3 p4 p5 p6 p7 p8 p9 pf HB2 HK2 H1 H2 HS y1 y2
    obtain ⟨p0, p1, p2, p3, p4, p5, p6, p7, p8, p9, pf, pz⟩ := HB.out.all
    cases hn : p.neg
    · rw [hn] at p2
      have hF := HO.out (x1 ++ xs ++ x2) (by rw [hn]; rfl)
      generalize x1 ++ xs ++ x2 = T at hF ⊢
      clear hn hA H3 H4 HO
      by_cases hl : 4096 < T.size
      · have hl2 : decide ((4096 : Int) < T.size) = true := decide_eq_true (by omega)
        rw [if_pos hl, if_pos hl] at hF
        obtain ⟨rfl, rfl⟩ := hF
        clear hl
        go_wp2
        go_ret2
        exact ⟨rfl, HK.out⟩
      · have hl2 : decide ((4096 : Int) < T.size) = false := decide_eq_false (by omega)
        rw [if_neg hl, if_neg hl] at hF
        obtain ⟨rfl, rfl⟩ := hF
        clear hl
        go_wp2
        go_ret2
        exact ⟨rfl, HK.out⟩

    · rw [hn] at p2
      have HF := Lib.hid (HO.out ((x1 ++ xs ++ x2) ++ ((⟨#[59]⟩ : ByteArray) ++ x3 ++ ⟨#[48]⟩ ++ x4)) (by rw [hn]; rfl))
      clear HO
      have hx0 : (x1 ++ xs ++ x2).size ≤ 3000000000000 := by rw [ByteArray.size_append, ByteArray.size_append]; omega
      generalize x1 ++ xs ++ x2 = X at *
      have hc : ((⟨#[59]⟩ : ByteArray) ++ x3).size ≤ 1000000000001 := by rw [ByteArray.size_append]; show 1 + x3.size ≤ _; omega
      have hd : ((⟨#[59]⟩ : ByteArray) ++ x3 ++ ⟨#[48]⟩).size ≤ 1000000000002 := by rw [ByteArray.size_append]; show _ + 1 ≤ _; omega
      have he : ((⟨#[59]⟩ : ByteArray) ++ x3 ++ ⟨#[48]⟩ ++ x4).size ≤ 2000000000002 := by rw [ByteArray.size_append]; omega
      have y3 := (hA ⟨#[59]⟩ x3 (by show 1 + x3.size ≤ _; omega)).out
      have y4 := (hA ((⟨#[59]⟩ : ByteArray) ++ x3) ⟨#[48]⟩ (by show _ + 1 ≤ _; omega)).out
      have y5 := (hA ((⟨#[59]⟩ : ByteArray) ++ x3 ++ ⟨#[48]⟩) x4 (by omega)).out
      have y6 := (hA X ((⟨#[59]⟩ : ByteArray) ++ x3 ++ ⟨#[48]⟩ ++ x4) (by omega)).out
      clear hn hA hc hd he
      go_upto_region 5 with fail
      go_cut [4] (fun s4 wx => s4 = .string (X ++ ((⟨#[59]⟩ : ByteArray) ++ x3 ++ ⟨#[48]⟩ ++ x4)) ∧ Keep [] w wx)
      case first =>
        go_region_held3 (fun W => W.cell? ⟨w.heap.size, 3, none⟩ = some (.slice A3 p.npre.length k3) ∧ W.cell? ⟨w.heap.size, 4, none⟩ = some (.slice A4 p.nsuf.length k4)) (first | exact ⟨p3, p4⟩ | exact ⟨m3, m4⟩ | exact ⟨j3, j4⟩) (first | (go_at_call_of 51 (Value.slice A3 p.npre.length k3); refine (H3 _ HK.out.drew).out.mono ?_; rintro e w3 ⟨rfl, hk⟩; have HK3 := Lib.hid (Keep.nil (HK.out.drew) hk); have HB3 := Lib.hid (PatAt.keep (HB.out.drewN 1) hk (by simp)); obtain ⟨m0, m1, m2, m3, m4, m5, m6, m7, m8, m9, mf, mz⟩ := HB3.out.all; clear hk) | (go_at_call_of 51 (Value.slice A4 p.nsuf.length k4); refine (H4 _ HK3.out).out.mono ?_; rintro e w4 ⟨rfl, hk⟩; have HK4 := Lib.hid (Keep.nil (HK3.out) hk); have HB4 := Lib.hid (PatAt.keep (HB3.out) hk (by simp)); obtain ⟨j0, j1, j2, j3, j4, j5, j6, j7, j8, j9, jf, jz⟩ := HB4.out.all; clear hk))
        all_goals
          go_wp2
          go_meet
          exact ⟨rfl, HK4.out⟩
      case rest =>
        obtain ⟨rfl, hK⟩ := hcut
        clear HK HB H3 H4 y3 y4 y5 y6 p0 p1 p2 p3 p4 p5 p6 p7 p8 p9 pf pz
        have HK := Lib.hid hK
        have hF := HF.out
        clear HF
        generalize X ++ ((⟨#[59]⟩ : ByteArray) ++ x3 ++ ⟨#[48]⟩ ++ x4) = T at hF ⊢
        clear hK
        by_cases hl : 4096 < T.size
        · have hl2 : decide ((4096 : Int) < T.size) = true := decide_eq_true (by omega)
          rw [if_pos hl, if_pos hl] at hF
          obtain ⟨rfl, rfl⟩ := hF
          clear hl
          go_wp2
          go_ret2
          exact ⟨rfl, HK.out⟩
        · have hl2 : decide ((4096 : Int) < T.size) = false := decide_eq_false (by omega)
          rw [if_neg hl, if_neg hl] at hF
          obtain ⟨rfl, rfl⟩ := hF
          clear hl
          go_wp2
          go_ret2
          exact ⟨rfl, HK.out⟩

end Go.Proofs.YtkkglaglnfebjaaDoor
