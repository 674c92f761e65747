/- Walks: the law NumPatDigits. -/
import Derived.Test.YtkkglaglnfebjaaDoorWRDigits
import Derived.Test.YtkkglaglnfebjaaDoorWLBelow
import Derived.Deep.RegionHeld3
namespace Go.Proofs.YtkkglaglnfebjaaDoor
open Go.RowKit Go.IntWalk

theorem pd_all (p : PatD) (neg : Bool) (s : ByteArray) (sc : Int) (hsz : PatSz p) (hs : s.size ≤ 9223372036854775800) :
    ∃ (S1 S2 : ByteArray) (ER : Int), (∀ (W : World) (v1 v2 v3 v4 : Value), RdP W v1 v2 v3 v4 p → Calls Tryd.prog 28 #[patV v1 v2 v3 v4 p, decV neg s sc] W fun e w' => e = .returned (.tuple #[.string S1, .string S2, .int .i64 ER]) ∧ Keep [] W w') ∧
      ((rightB p = false ∧ S1 = ⟨#[]⟩ ∧ S2 = ⟨#[]⟩ ∧ ER = 2) ∨ (rightB p = true ∧ decB neg s sc = false ∧ S1 = ⟨#[]⟩ ∧ S2 = ⟨#[]⟩ ∧ ER = 2) ∨
        (rightB p = true ∧ decB neg s sc = true ∧ ER = 0 ∧ (∀ (W : World) (v1 v2 v3 v4 : Value), RdP W v1 v2 v3 v4 p → Calls Tryd.prog 30 #[patV v1 v2 v3 v4 p, decV neg s sc] W fun e w' => e = .returned (.tuple #[.string S1, .string S2]) ∧ Keep [] W w'))) := by
  cases hr : rightB p
  · exact ⟨_, _, _, fun W v1 v2 v3 v4 hp => pdigits_bad W v1 v2 v3 v4 p neg s sc hr hp hsz, .inl ⟨rfl, rfl, rfl, rfl⟩⟩
  · cases hd : decB neg s sc
    · exact ⟨_, _, _, fun W v1 v2 v3 v4 hp => pdigits_dec W v1 v2 v3 v4 p neg s sc hr hd hs hp hsz, .inr (.inl ⟨rfl, rfl, rfl, rfl, rfl⟩)⟩
    · obtain ⟨n, rfl⟩ := Int.eq_ofNat_of_zero_le (can_of hd).2.2.2.1
      exact ⟨_, _, _, fun W v1 v2 v3 v4 hp => pdigits_yes W v1 v2 v3 v4 p neg s n hr hd hp hsz, .inr (.inr ⟨rfl, rfl, rfl, fun W v1 v2 v3 v4 hp => digits16_any W v1 v2 v3 v4 p neg s n hr hd hp⟩)⟩

set_option maxRecDepth 100000 in
set_option maxHeartbeats 4000000 in
theorem law_digits {B : Nat} (w : World) (hE : Env B w) (A1 A2 A3 A4 : Option Addr) (n1 n2 n3 n4 k1 k2 k3 k4 : Nat) (p : PatD) (neg : Bool) (s : ByteArray) (sc : Int) (hp : RdP w (.slice A1 n1 k1) (.slice A2 n2 k2) (.slice A3 n3 k3) (.slice A4 n4 k4) p) (hn : NilP (.slice A1 n1 k1) (.slice A2 n2 k2) (.slice A3 n3 k3) (.slice A4 n4 k4)) (hsz : TxtSz p) (hs : s.size ≤ 9223372036854775800) :
    Calls Tryd.prog 8 #[patV (.slice A1 n1 k1) (.slice A2 n2 k2) (.slice A3 n3 k3) (.slice A4 n4 k4) p, decV neg s sc] w fun e w' => e = .returned (.bool true) ∧ Keep [] w w' := by
  have HE := Lib.hid hE
  have HP := Lib.hid hp
  have HN := Lib.hid (cut_nil hn)
  have HSz := Lib.hid hsz.cut
  have HB0 := Lib.hid ((PatAt.new w (.slice A1 n1 k1) (.slice A2 n2 k2) (.slice A3 n3 k3) (.slice A4 n4 k4) p).alloc (.cells #[.bool neg, .string s, .int .i64 sc] 51))
  have HD0 := Lib.hid (Blk.new' (w.alloc (boxP (.slice A1 n1 k1) (.slice A2 n2 k2) (.slice A3 n3 k3) (.slice A4 n4 k4) p)) 51 #[.bool neg, .string s, .int .i64 sc] (w.heap.size + 1) (by simp))
  have HWk := Lib.hid (wakes_any ((w.alloc (boxP (.slice A1 n1 k1) (.slice A2 n2 k2) (.slice A3 n3 k3) (.slice A4 n4 k4) p)).alloc (.cells #[.bool neg, .string s, .int .i64 sc] 51)) (hE.below (((Below.refl B w).alloc hE.le _).alloc (by simp; have := hE.le; omega) _)))
  obtain ⟨S1, S2, ER, hDg, hAns⟩ := pd_all (cutD p) neg s sc hsz.cut hs
  have HDg0 := Lib.hid hDg
  have HAns := Lib.hid hAns
  have HRd := fun W => Lib.hid (rdright_any W neg s sc hs)
  clear hE hp hsz hn hDg hAns hs
  unfold boxP at HB0 HD0 HWk
  simp only [patV, decV] at *
  go_enter Tryd.func8, Tryd.ntmps8
  go_upto_region 3 with (go_at_call 10; refine HWk.out.mono ?_; rintro e w1 ⟨rfl, hk1⟩)
  have HK1 := Lib.hid ((((Keep.refl [] w).alloc _).alloc _).nil hk1)
  have HB1 := Lib.hid (HB0.out.keep hk1 (by simp))
  have HD1 := Lib.hid (DecAt.keep HD0.out hk1 (by simp))
  obtain ⟨p0, p1, p2, p3, p4, p5, p6, p7, p8, p9, pf, pz⟩ := PatAt.all HB1.out
  clear hk1 HB0 HD0 HWk HE
  have hC := Lib.hid (cut_any w1 A1 A2 A3 A4 n1 n2 n3 n4 k1 k2 k3 k4 p (HP.out.keep_nil HK1.out))
  go_cut [] (fun wx => PatAt wx w.heap.size (.slice A1 (min n1 30) k1) (.slice A2 (min n2 30) k2) (.slice A3 (min n3 30) k3) (.slice A4 (min n4 30) k4) (cutD p) ∧ DecAt wx (w.heap.size + 1) neg s sc ∧ Keep [] w wx)
  case first =>
    simp only [patV] at hC
    go_wp2_with (go_at_call 15; refine hC.out.mono ?_; rintro e w2 ⟨rfl, hk2⟩; have HB2 := Lib.hid (HB1.out.keep hk2 (by simp)); have HD2 := Lib.hid (DecAt.keep HD1.out hk2 (by simp)); have HK2 := Lib.hid (HK1.out.nil hk2); obtain ⟨q0, q1, q2, q3, q4, q5, q6, q7, q8, q9, qf, qz⟩ := PatAt.all HB2.out; clear hk2)
    go_meet
    refine ⟨PatAt.store HB2.out _ _ _ _ _, ?_, ?_⟩
    · repeat (refine Blk.far ?_ (by simp) _)
      exact HD2.out
    · repeat (refine Keep.setCell ?_ (.inr (Nat.le_refl _)) _)
      exact HK2.out
  case rest =>
    obtain ⟨hB2, hD2, hK2⟩ := hcut
    have HP4 := Lib.hid hB2
    have HD4 := Lib.hid hD2
    have HKw := Lib.hid hK2
    have HRp := Lib.hid (HP.out.keep_nil hK2).cut
    clear hB2 hD2 hK2 hC HB1 HD1 HK1 HP p0 p1 p2 p3 p4 p5 p6 p7 p8 p9 pf pz
    generalize cutD p = p at *
    generalize min n1 30 = n1 at *
    generalize min n2 30 = n2 at *
    generalize min n3 30 = n3 at *
    generalize min n4 30 = n4 at *
    have HK4 : Hid (Keep [] wc wc) := Keep.refl _ _
    have HCp : ∀ W, Keep [] wc W → Hid _ := fun W hk => Lib.hid (copied_any W _ _ _ _ p (HRp.out.keep_nil hk) HN.out HSz.out)
    have HRt : ∀ W, Keep [] wc W → Hid (Calls Tryd.prog 19 #[patV (.slice A1 n1 k1) (.slice A2 n2 k2) (.slice A3 n3 k3) (.slice A4 n4 k4) p] W fun e w' => e = .returned (.bool (rightB p)) ∧ Keep [] W w') := fun W hk => rright_any W _ _ _ _ p (HRp.out.keep_nil hk) HSz.out
    have HDg : ∀ (W : World) (v1 v2 v3 v4 : Value), RdP W v1 v2 v3 v4 p → Hid _ := fun W v1 v2 v3 v4 hR => Lib.hid (HDg0.out W v1 v2 v3 v4 hR)
    simp only [patV] at HCp HRt HDg
    clear HDg0
    obtain ⟨p4_0, p4_1, p4_2, p4_3, p4_4, p4_5, p4_6, p4_7, p4_8, p4_9, pf4, pz4⟩ := PatAt.all HP4.out
    obtain ⟨d4_0, d4_1, d4_2, df4⟩ := DecAt.all HD4.out
    go_upto_region 4 with fail
    go_cut [5, 6, 7] (fun s5 s6 s7 wx => s5 = .string S1 ∧ s6 = .string S2 ∧ s7 = .int .i64 ER ∧ PatAt wx w.heap.size (.slice A1 n1 k1) (.slice A2 n2 k2) (.slice A3 n3 k3) (.slice A4 n4 k4) p ∧ DecAt wx (w.heap.size + 1) neg s sc ∧ Keep [] wc wx)
    case first =>
      go_region_held3 (fun W => W.cell? ⟨w.heap.size, 0, none⟩ = some (.slice A1 n1 k1) ∧ W.cell? ⟨w.heap.size, 1, none⟩ = some (.slice A2 n2 k2) ∧ W.cell? ⟨w.heap.size, 2, none⟩ = some (.bool p.neg) ∧ W.cell? ⟨w.heap.size, 3, none⟩ = some (.slice A3 n3 k3) ∧ W.cell? ⟨w.heap.size, 4, none⟩ = some (.slice A4 n4 k4) ∧ W.cell? ⟨w.heap.size, 5, none⟩ = some (.int .i64 p.mi) ∧ W.cell? ⟨w.heap.size, 6, none⟩ = some (.int .i64 p.mf) ∧ W.cell? ⟨w.heap.size, 7, none⟩ = some (.int .i64 p.xf) ∧ W.cell? ⟨w.heap.size, 8, none⟩ = some (.int .i64 p.g) ∧ W.cell? ⟨w.heap.size, 9, none⟩ = some (.int .i64 p.g2) ∧ W.cell? ⟨w.heap.size + 1, 0, none⟩ = some (.bool neg) ∧ W.cell? ⟨w.heap.size + 1, 1, none⟩ = some (.string s) ∧ W.cell? ⟨w.heap.size + 1, 2, none⟩ = some (.int .i64 sc)) (first | exact ⟨p4_0, p4_1, p4_2, p4_3, p4_4, p4_5, p4_6, p4_7, p4_8, p4_9, d4_0, d4_1, d4_2⟩ | exact ⟨p5_0, p5_1, p5_2, p5_3, p5_4, p5_5, p5_6, p5_7, p5_8, p5_9, d5_0, d5_1, d5_2⟩ | exact ⟨p6_0, p6_1, p6_2, p6_3, p6_4, p6_5, p6_6, p6_7, p6_8, p6_9, d6_0, d6_1, d6_2⟩) (first | (have hz := HR5; clear hz; go_at_call 28; refine (HDg _ _ _ _ _ HR5.out).out.mono ?_; rintro e w6 ⟨rfl, hk⟩; have HP6 := Lib.hid (PatAt.keep HP5.out hk (by simp)); have HD6 := Lib.hid (DecAt.keep HD5.out hk (by simp)); have HK6 := Lib.hid (Keep.nil HK5.out hk); obtain ⟨p6_0, p6_1, p6_2, p6_3, p6_4, p6_5, p6_6, p6_7, p6_8, p6_9, pf6, pz6⟩ := PatAt.all HP6.out; obtain ⟨d6_0, d6_1, d6_2, df6⟩ := DecAt.all HD6.out; clear hk) | (go_at_call 16; refine (HCp _ HK4.out.drew).out.mono ?_; rintro e w5 ⟨u1, u2, u3, u4, rfl, hR5, hN5, hk⟩; obtain ⟨U1, c1, rfl, _, _, _⟩ := hR5.pre; obtain ⟨U2, c2, rfl, _, _, _⟩ := hR5.suf; obtain ⟨U3, c3, rfl, _, _, _⟩ := hR5.npre; obtain ⟨U4, c4, rfl, _, _, _⟩ := hR5.nsuf; have HR5 := Lib.hid hR5; have HP5 := Lib.hid (PatAt.keep (HP4.out.drewN 1) hk (by simp)); have HD5 := Lib.hid (DecAt.keep (Blk.drewN HD4.out 1) hk (by simp)); have HK5 := Lib.hid (Keep.nil (HK4.out.drewN 1) hk); obtain ⟨p5_0, p5_1, p5_2, p5_3, p5_4, p5_5, p5_6, p5_7, p5_8, p5_9, pf5, pz5⟩ := PatAt.all HP5.out; obtain ⟨d5_0, d5_1, d5_2, df5⟩ := DecAt.all HD5.out; clear hk hR5 hN5))
      all_goals
        go_wp2
        go_meet
        exact ⟨rfl, rfl, rfl, HP6.out, HD6.out, HK6.out⟩
    case rest =>
      obtain ⟨rfl, rfl, rfl, hB, hD, hK⟩ := hcut
      have HB7 := Lib.hid hB
      have HD7 := Lib.hid hD
      have HK7 := Lib.hid (HKw.out.nil hK)
      have HRt7 := HRt wc hK
      have HRp7 := Lib.hid (HRp.out.keep_nil hK)
      clear p4_0 p4_1 p4_2 p4_3 p4_4 p4_5 p4_6 p4_7 p4_8 p4_9 pf4 pz4 d4_0 d4_1 d4_2 df4
      clear hB hD hK HRt HCp HDg HP4 HD4 HKw HK4 HRp HN HSz
      obtain ⟨p0, p1, p2, p3, p4, p5, p6, p7, p8, p9, pf, pz⟩ := PatAt.all HB7.out
      have hans := HAns.out
      clear HAns
      rcases hans with ⟨hr, rfl, rfl, rfl⟩ | ⟨hr, hd, rfl, rfl, rfl⟩ | ⟨hr, hd, rfl, hG⟩
      · rw [hr] at HRt7
        clear hr
        go_wp2_with (go_at_call 19; refine HRt7.out.mono ?_; rintro e w8 ⟨rfl, hk⟩; have HK8 := Lib.hid (HK7.out.nil hk); clear hk)
        go_ret
        exact ⟨rfl, HK8.out⟩
      · rw [hr] at HRt7
        rw [hd] at HRd
        clear hr hd
        go_wp2_with (first | (go_at_call 19; refine HRt7.out.mono ?_; rintro e w8 ⟨rfl, hk⟩; have HD8 := Lib.hid (DecAt.keep HD7.out hk (by simp)); have HK8 := Lib.hid (HK7.out.nil hk); clear hk; obtain ⟨d0, d1, d2, df⟩ := DecAt.all HD8.out) | (go_at_call 29; refine (HRd _).out.mono ?_; rintro e w9 ⟨rfl, hk⟩; have HK9 := Lib.hid (HK8.out.nil hk); clear hk))
        go_ret
        exact ⟨rfl, HK9.out⟩
      · rw [hr] at HRt7
        rw [hd] at HRd
        have HG : ∀ W, RdP W (.slice A1 n1 k1) (.slice A2 n2 k2) (.slice A3 n3 k3) (.slice A4 n4 k4) p → Hid _ := fun W hR => Lib.hid (hG W _ _ _ _ hR)
        clear hr hd hG
        go_wp2_with (first
          | (go_at_call 19; refine HRt7.out.mono ?_; rintro e w8 ⟨rfl, hk⟩; have HB8 := Lib.hid (PatAt.keep HB7.out hk (by simp)); have HR8 := Lib.hid (HRp7.out.keep_nil hk); have HD8 := Lib.hid (DecAt.keep HD7.out hk (by simp)); have HK8 := Lib.hid (HK7.out.nil hk); clear hk; obtain ⟨d0, d1, d2, df⟩ := DecAt.all HD8.out)
          | (go_at_call 29; refine (HRd _).out.mono ?_; rintro e w9 ⟨rfl, hk⟩; have HB9 := Lib.hid (PatAt.keep HB8.out hk (by simp)); have HR9 := Lib.hid (HR8.out.keep_nil hk); have HD9 := Lib.hid (DecAt.keep HD8.out hk (by simp)); have HK9 := Lib.hid (HK8.out.nil hk); clear hk; obtain ⟨e0, e1, e2, ef⟩ := DecAt.all HD9.out; obtain ⟨q0, q1, q2, q3, q4, q5, q6, q7, q8, q9, qf, qz⟩ := PatAt.all HB9.out)
          | (go_at_call 30; refine (HG _ HR9.out).out.mono ?_; rintro e w10 ⟨rfl, hk⟩; have HK10 := Lib.hid (HK9.out.nil hk); clear hk))
        go_ret
        exact ⟨rfl, HK10.out⟩
end Go.Proofs.YtkkglaglnfebjaaDoor
