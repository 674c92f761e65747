/- Walks: the law NumPatWhole. -/
import Derived.Test.YtkkglaglnfebjaaDoorWWhole
import Derived.Test.YtkkglaglnfebjaaDoorWPDigits
import Derived.Test.YtkkglaglnfebjaaDoorWLBelow
namespace Go.Proofs.YtkkglaglnfebjaaDoor
open Go.RowKit Go.IntWalk

theorem okT_fillW {l : List UInt8} (n : Nat) (h : okT l) : okT (fillW n l) := fun b hb => by
  unfold fillW at hb
  rcases List.mem_append.1 hb with hb | hb
  · obtain rfl := List.eq_of_mem_replicate hb
    unfold isD; decide
  · exact h b hb
theorem okT_fillF {l : List UInt8} (n : Nat) (h : okT l) : okT (fillF n l) := fun b hb => by
  unfold fillF at hb
  rcases List.mem_append.1 hb with hb | hb
  · exact h b hb
  · obtain rfl := List.eq_of_mem_replicate hb
    unfold isD; decide
theorem okT_frac (mf xf sc : Nat) (l : List UInt8) (h : okT l) : okT (fracD mf xf sc l) := fun b hb => by
  obtain ⟨F, j, h1, h2⟩ := frac_root mf xf sc l
  have hm : b ∈ restT (rndS xf sc) (rndL xf sc l) := by
    rw [h2]
    exact List.mem_append_left _ (h1 ▸ hb)
  have hk : okT (rndL xf sc l) := by
    unfold rndL
    split
    · exact (round_can _ h).ok
    · exact h
  exact okT_pad _ hk b (List.mem_of_mem_drop hm)
/-- All that the law asks of the digits. -/
theorem whole_facts (s : ByteArray) (mi mf xf sc : Nat) (hd : decB false s (sc : Int) = true) (h1 : 1 ≤ mi) (h2 : mi ≤ 64) (h3 : xf ≤ 64) (h4 : mf ≤ xf) :
    ∃ (TX T Rb G : ByteArray) (Sc : Nat) (Gs er : Int), ∀ X Y : ByteArray, X = ⟨(fillW mi (wholeD xf sc s.data.toList)).toArray⟩ → Y = ⟨(fillF mf (fracD mf xf sc s.data.toList)).toArray⟩ →
      (mi ≤ X.size ∧ mf ≤ Y.size ∧ Y.size ≤ xf ∧ X.size ≤ 1000 ∧ (∀ h0 : 0 < X.size, mi < X.size → (X[0].toNat : Int) ≠ 48)) ∧
      ((X.data.toList.dropWhile (· == 48) = [] ∧ TX = ⟨#[48]⟩) ∨ (X.data.toList.dropWhile (· == 48) ≠ [] ∧ TX = ⟨(X.data.toList.dropWhile (· == 48)).toArray⟩)) ∧ TX.size ≤ 1000 ∧
      ((Y.data.toList = [] ∧ T = TX) ∨ (Y.data.toList ≠ [] ∧ T = TX ++ ((⟨#[46]⟩ : ByteArray) ++ Y))) ∧
      (∀ W, Calls Tryd.prog 32 #[.agg #[.bool false, .string s, .int .i64 sc], .int .i64 xf, .int .i64 1] W fun e w' => e = .returned (.tuple #[.agg #[.bool false, .string Rb, .int .i64 Sc], .int .i64 0]) ∧ Keep [] W w') ∧
      (∀ W, Calls Tryd.prog 34 #[.string T] W fun e w' => e = .returned (.tuple #[.agg #[.bool false, .string G, .int .i64 Gs], .agg #[.int .i64 er, .int .i64 0]]) ∧ Keep [] W w') ∧
      (er = 3 ∨ (er = 0 ∧ ∀ W, Calls Tryd.prog 35 #[.agg #[.bool false, .string G, .int .i64 Gs], .agg #[.bool false, .string Rb, .int .i64 Sc]] W fun e w' => e = .returned (.tuple #[.int .i64 0, .int .i64 0]) ∧ Keep [] W w')) := by
  obtain ⟨hcan, hs1, hs4, -, hsc, -⟩ := can_of hd
  have hsc : sc ≤ 400 := by omega
  have hll : s.data.toList.length ≤ 400 := by rw [txt_len]; omega
  obtain ⟨rc, rl, rs⟩ := rnd_can xf sc s.data.toList hcan hll hsc
  have hrs : rndS xf sc ≤ xf := by unfold rndS; split <;> omega
  have hok : okT (wholeD xf sc s.data.toList) := by
    rw [whole_eq]
    exact okT_kept _ rc.ok
  have hWo := okT_fillW mi hok
  have hFo := okT_fillF mf (okT_frac mf xf sc _ hcan.ok)
  have hfl := (frac_len mf xf sc s.data.toList).1
  have hwl : (wholeD xf sc s.data.toList).length ≤ 401 := by rw [whole_eq, keptT_len]; omega
  have hFl : (fillF mf (fracD mf xf sc s.data.toList)).length = max mf (fracD mf xf sc s.data.toList).length := by
    unfold fillF
    rw [List.length_append, List.length_replicate]; omega
  have hWl : (fillW mi (wholeD xf sc s.data.toList)).length = max mi (wholeD xf sc s.data.toList).length := by
    unfold fillW
    rw [List.length_append, List.length_replicate]; omega
  obtain ⟨Al, hAl⟩ : ∃ A, A = canon (fillW mi (wholeD xf sc s.data.toList)) := ⟨_, rfl⟩
  obtain ⟨Yl, hYl⟩ : ∃ Y, Y = fillF mf (fracD mf xf sc s.data.toList) := ⟨_, rfl⟩
  have hAc : CanT Al := by rw [hAl]; exact canon_can hWo
  have hA5 : Al.length ≤ 500 := by
    have := canon_len (fillW mi (wholeD xf sc s.data.toList))
    rw [hAl]; omega
  have hYo : okT Yl := by rw [hYl]; exact hFo
  have hY4 : Yl.length ≤ 64 := by rw [hYl, hFl]; omega
  refine ⟨⟨Al.toArray⟩, if Yl = [] then ⟨Al.toArray⟩ else ⟨Al.toArray⟩ ++ ((⟨#[46]⟩ : ByteArray) ++ ⟨Yl.toArray⟩), ⟨(rndL xf sc s.data.toList).toArray⟩, madeD (Al ++ Yl), rndS xf sc, madeS (Al ++ Yl) Yl.length, madeE (Al ++ Yl), fun X Y hX hY => ⟨⟨?_, ?_, ?_, ?_, ?_⟩, ?_, ?_, ?_, ?_, ?_, ?_⟩⟩
  · rw [hX]; show mi ≤ (fillW _ _).length; omega
  · rw [hY]; show mf ≤ (fillF _ _).length; omega
  · rw [hY]; show (fillF _ _).length ≤ _; omega
  · rw [hX]; show (fillW _ _).length ≤ _; omega
  · intro h0 hlt h48
    have hXl : X.data.toList = fillW mi (wholeD xf sc s.data.toList) := by rw [hX]
    have hfe : fillW mi (wholeD xf sc s.data.toList) = wholeD xf sc s.data.toList := by
      have hlt2 : mi < (fillW mi (wholeD xf sc s.data.toList)).length := by rw [← hXl, txt_len]; exact hlt
      unfold fillW
      rw [show mi - (wholeD xf sc s.data.toList).length = 0 by omega]; rfl
    have hkh := kept_head (n := rndS xf sc) rc (by rw [← whole_eq, ← hfe, ← hXl, txt_len]; omega)
    rw [← whole_eq, ← hfe, ← hXl] at hkh
    apply hkh
    rw [List.head?_eq_getElem?, List.getElem?_eq_getElem (by rw [txt_len]; exact h0)]
    congr 1
    rw [get_list X 0 h0] at h48
    exact UInt8.toNat_inj.1 (by show (X.data.toList[0]'_).toNat = 48; omega)
  · have hXl : X.data.toList = fillW mi (wholeD xf sc s.data.toList) := by rw [hX]
    rw [← hXl] at hAl
    unfold canon at hAl
    by_cases he : X.data.toList.dropWhile (· == 48) = []
    · left
      refine ⟨he, ?_⟩
      rw [if_pos he] at hAl
      rw [hAl]
    · right
      refine ⟨he, ?_⟩
      rw [if_neg he] at hAl
      rw [hAl]
  · show Al.length ≤ _; omega
  · have hYb : Y.data.toList = Yl := by rw [hY, hYl]
    by_cases hy : Yl = []
    · left
      exact ⟨hYb.trans hy, if_pos hy⟩
    · right
      refine ⟨by rw [hYb]; exact hy, ?_⟩
      rw [if_neg hy]
      rw [hY, ← hYl]
  · intro W
    unfold rndL rndS
    by_cases hx : xf < sc
    · rw [if_pos hx, if_pos hx]
      obtain ⟨c, rfl⟩ : ∃ c, sc = xf + c := ⟨sc - xf, by omega⟩
      rw [show xf + c - xf = c by omega]
      exact round_any W s xf c (by omega) hsc hd hs1 hs4 hcan.ok
    · rw [if_neg hx, if_neg hx]
      have := round_id W s (sc : Int) (xf : Int) (by omega) (by omega) (by omega) (by omega) hd hs4
      rw [txt_of]
      exact this
  · intro W
    refine parse_text Al Yl hAc hYo hA5 (by omega) _ ?_ W
    by_cases hy : Yl = []
    · left
      exact ⟨hy, by rw [if_pos hy]⟩
    · right
      exact ⟨hy, by rw [if_neg hy, txt_cat, txt_cat]; rfl⟩
  · by_cases hg : (canon (Al ++ Yl)).length ≤ 400
    · right
      unfold madeD madeS madeE
      rw [if_pos hg, if_pos hg, if_pos hg]
      exact ⟨rfl, fun W => cmp_pack mi mf xf sc s.data.toList hcan hll hsc (by rw [← hYl]; omega) Yl _ hYl hYo hWo (by rw [hAl]) hg W⟩
    · left
      unfold madeE
      rw [if_neg hg]

set_option maxRecDepth 100000 in
set_option maxHeartbeats 4000000 in
theorem law_whole {B : Nat} (w : World) (hE : Env B w) (A1 A2 A3 A4 : Option Addr) (n1 n2 n3 n4 k1 k2 k3 k4 : Nat) (p : PatD) (neg : Bool) (s : ByteArray) (sc : Int) (hp : RdP w (.slice A1 n1 k1) (.slice A2 n2 k2) (.slice A3 n3 k3) (.slice A4 n4 k4) p) (hsz : TxtSz p) (hs : s.size ≤ 9223372036854775800) :
    Calls Tryd.prog 9 #[patV (.slice A1 n1 k1) (.slice A2 n2 k2) (.slice A3 n3 k3) (.slice A4 n4 k4) p, decV neg s sc] w fun e w' => e = .returned (.bool true) ∧ Keep [] w w' := by
  have HE := Lib.hid hE
  have HP := Lib.hid hp
  have HSz := Lib.hid hsz.cut
  have HB0 := Lib.hid ((PatAt.new w (.slice A1 n1 k1) (.slice A2 n2 k2) (.slice A3 n3 k3) (.slice A4 n4 k4) p).alloc (.cells #[.bool neg, .string s, .int .i64 sc] 51))
  have HD0 := Lib.hid (Blk.new' (w.alloc (boxP (.slice A1 n1 k1) (.slice A2 n2 k2) (.slice A3 n3 k3) (.slice A4 n4 k4) p)) 51 #[.bool neg, .string s, .int .i64 sc] (w.heap.size + 1) (by simp))
  have HWk := Lib.hid (wakes_any ((w.alloc (boxP (.slice A1 n1 k1) (.slice A2 n2 k2) (.slice A3 n3 k3) (.slice A4 n4 k4) p)).alloc (.cells #[.bool neg, .string s, .int .i64 sc] 51)) (hE.below (((Below.refl B w).alloc hE.le _).alloc (by simp; have := hE.le; omega) _)))
  have HSs := Lib.hid hs
  clear hE hp hsz hs
  unfold boxP at HB0 HD0 HWk
  simp only [patV, decV] at *
  go_enter Tryd.func9, Tryd.ntmps9
  go_upto_region 3 with (go_at_call 10; refine HWk.out.mono ?_; rintro e w1 ⟨rfl, hk1⟩)
  have HK1 := Lib.hid ((((Keep.refl [] w).alloc _).alloc _).nil hk1)
  have HB1 := Lib.hid (HB0.out.keep hk1 (by simp))
  have HD1 := Lib.hid (DecAt.keep HD0.out hk1 (by simp))
  obtain ⟨p0, p1, p2, p3, p4, p5, p6, p7, p8, p9, pf, pz⟩ := PatAt.all HB1.out
  clear hk1 HB0 HD0 HWk HE
  have hC := Lib.hid (cut_any w1 A1 A2 A3 A4 n1 n2 n3 n4 k1 k2 k3 k4 p (HP.out.keep_nil HK1.out))
  go_cut [] (fun wx => PatAt wx w.heap.size (.slice A1 (min n1 30) k1) (.slice A2 (min n2 30) k2) (.slice A3 (min n3 30) k3) (.slice A4 (min n4 30) k4) (cutD p) ∧ DecAt wx (w.heap.size + 1) neg s sc ∧ Keep [] w wx)
  case first =>
    simp only [patV] at hC
    go_wp2_with (go_at_call 15; refine hC.out.mono ?_; rintro e w2 ⟨rfl, hk2⟩; have HB2 := Lib.hid (HB1.out.keep hk2 (by simp)); have HD2 := Lib.hid (DecAt.keep HD1.out hk2 (by simp)); have HK2 := Lib.hid (HK1.out.nil hk2); obtain ⟨q0, q1, q2, q3, q4, q5, q6, q7, q8, q9, qf, qz⟩ := PatAt.all HB2.out; clear hk2)
    go_meet
    refine ⟨PatAt.store HB2.out _ _ _ _ _, ?_, ?_⟩
    · repeat (refine Blk.far ?_ (by simp) _)
      exact HD2.out
    · repeat (refine Keep.setCell ?_ (.inr (Nat.le_refl _)) _)
      exact HK2.out
  case rest =>
    obtain ⟨hB2, hD2, hK2⟩ := hcut
    have HP4 := Lib.hid hB2
    have HD4 := Lib.hid hD2
    have HKw := Lib.hid hK2
    have HRp := Lib.hid (HP.out.keep_nil hK2).cut
    clear hB2 hD2 hK2 hC HB1 HD1 HK1 HP p0 p1 p2 p3 p4 p5 p6 p7 p8 p9 pf pz
    generalize cutD p = p at *
    generalize min n1 30 = n1 at *
    generalize min n2 30 = n2 at *
    generalize min n3 30 = n3 at *
    generalize min n4 30 = n4 at *
    obtain ⟨p0, p1, p2, p3, p4, p5, p6, p7, p8, p9, pf, pz⟩ := PatAt.all HP4.out
    obtain ⟨d0, d1, d2, df⟩ := DecAt.all HD4.out
    by_cases hgood : rightB p = true ∧ decB neg s sc = true
    rotate_left
    · have HDg : Hid (Calls Tryd.prog 28 #[patV (.slice A1 n1 k1) (.slice A2 n2 k2) (.slice A3 n3 k3) (.slice A4 n4 k4) p, decV neg s sc] wc fun e w' => e = .returned (.tuple #[.string ⟨#[]⟩, .string ⟨#[]⟩, .int .i64 2]) ∧ Keep [] wc w') := by
        cases hr : rightB p
        · exact pdigits_bad wc _ _ _ _ p neg s sc hr HRp.out HSz.out
        · cases hd : decB neg s sc
          · exact pdigits_dec wc _ _ _ _ p neg s sc hr hd HSs.out HRp.out HSz.out
          · exact absurd ⟨hr, hd⟩ hgood
      simp only [patV, decV] at HDg
      clear hgood
      go_wp2_with (go_at_call 28; refine HDg.out.mono ?_; rintro e w5 ⟨rfl, hk⟩; have HK5 := Lib.hid (HKw.out.nil hk); clear hk)
      go_ret
      exact ⟨rfl, HK5.out⟩
    obtain ⟨hr, hd⟩ := hgood
    obtain ⟨hcan, hs1, hs4, hsc0, hsc4, -⟩ := can_of hd
    obtain ⟨sc, rfl⟩ := Int.eq_ofNat_of_zero_le hsc0
    have HDg : Hid (Calls Tryd.prog 28 #[patV (.slice A1 n1 k1) (.slice A2 n2 k2) (.slice A3 n3 k3) (.slice A4 n4 k4) p, decV neg s (sc : Int)] wc fun e w' => e = .returned (digV p s.data.toList sc) ∧ Keep [] wc w') := pdigits_yes wc _ _ _ _ p neg s sc hr hd HRp.out HSz.out
    have hdf : decB false s (sc : Int) = true := by
      have := hcan.decB (by rw [txt_len]; omega) (sc : Int) hsc0 hsc4
      rwa [txt_of] at this
    obtain ⟨l1, l2, pn, l3, l4, mi, mf, xf, g, g2⟩ := p
    obtain ⟨m1, m2, m3, m4, m5, m6⟩ := (right_nums _ hr).1
    simp only at m1 m2 m3 m4 m5 m6
    obtain ⟨mi, rfl⟩ := Int.eq_ofNat_of_zero_le (show 0 ≤ mi by omega)
    obtain ⟨mf, rfl⟩ := Int.eq_ofNat_of_zero_le m5
    obtain ⟨xf, rfl⟩ := Int.eq_ofNat_of_zero_le m3
    obtain ⟨TX, T, Rb, G, Sc, Gs, er, hall⟩ := whole_facts s mi mf xf sc hdf (by omega) (by omega) (by omega) (by omega)
    obtain ⟨X, hX⟩ : ∃ X : ByteArray, X = ⟨(fillW mi (wholeD xf sc s.data.toList)).toArray⟩ := ⟨_, rfl⟩
    obtain ⟨Y, hY⟩ : ∃ Y : ByteArray, Y = ⟨(fillF mf (fracD mf xf sc s.data.toList)).toArray⟩ := ⟨_, rfl⟩
    obtain ⟨⟨x1, x2, x3, x4, x5⟩, hTX, hTXs, hT, hRd, hPs, hCm⟩ := hall X Y hX hY
    have HDg2 : Hid (Calls Tryd.prog 28 #[patV (.slice A1 n1 k1) (.slice A2 n2 k2) (.slice A3 n3 k3) (.slice A4 n4 k4) ⟨l1, l2, pn, l3, l4, mi, mf, xf, g, g2⟩, decV neg s (sc : Int)] wc fun e w' => e = .returned (.tuple #[.string X, .string Y, .int .i64 0]) ∧ Keep [] wc w') := by
      rw [hX, hY]
      exact HDg.out
    have HNg : ∀ W, neg = true → Hid (Calls Tryd.prog 31 #[decV true s (sc : Int)] W fun e w' => e = .returned (.tuple #[.agg #[.bool false, .string s, .int .i64 sc], .int .i64 0]) ∧ Keep [] W w') := fun W hn => neg_any W s (sc : Int) (by rw [hn] at hd; exact hd) hs4
    have HRd := fun W => Lib.hid (hRd W)
    have HPs := fun W => Lib.hid (hPs W)
    have HCm := Lib.hid hCm
    have HT := Lib.hid hT
    have hTT0 := Tryd.strings_TrimLeft_one X 48 (by decide)
    have HTr : ∀ W, Hid (Calls Tryd.prog 33 #[.string X, .string ⟨#[48]⟩] W fun e w' => e = .returned (.string ⟨(X.data.toList.dropWhile (· == 48)).toArray⟩) ∧ W = w') := fun W => (hTT0 W).mono fun e w' ⟨h1, h2⟩ => ⟨h1, h2.symm⟩
    obtain ⟨D0, hD0⟩ : ∃ D0 : ByteArray, D0 = ⟨(X.data.toList.dropWhile (· == 48)).toArray⟩ := ⟨_, rfl⟩
    have HTY : Hid ((D0.toList.isEmpty = true ∧ TX = ⟨#[48]⟩) ∨ (D0.toList.isEmpty = false ∧ TX = D0)) := by
      rcases hTX with ⟨he, ht⟩ | ⟨he, ht⟩
      · exact .inl ⟨by rw [ByteArray.toList_eq, hD0, he]; rfl, ht⟩
      · exact .inr ⟨toList_ne hD0 he, ht.trans hD0.symm⟩
    rw [← hD0] at HTr
    have hmx : max (xf : Int) mf = xf := by omega
    have a1 : ¬ (X.size : Int) < mi := by omega
    have a2 : ¬ (Y.size : Int) < mf := by omega
    have a3 : ¬ (xf : Int) < Y.size := by omega
    have hX0 : 0 < X.size := by omega
    have HX5 := Lib.hid (x5 hX0)
    have HXs := Lib.hid x4
    have HYs : Hid (Y.size ≤ 64) := by unfold Hid; omega
    have HTXs := Lib.hid hTXs
    clear HDg hX hY hall hRd hPs hCm hTX hT hTT0 hD0 hr hd hcan hs1 hs4 hdf x1 x2 x3 x4 x5 hTXs m1 m2 m3 m4 m5 m6 HRp HSz HSs
    simp only [patV, decV] at HDg2 HNg
    go_upto_region 7 with (go_at_call 28; refine HDg2.out.mono ?_; rintro e w5 ⟨rfl, hk⟩; have HB5 := Lib.hid (PatAt.keep HP4.out hk (by simp)); have HD5 := Lib.hid (DecAt.keep HD4.out hk (by simp)); have HK5 := Lib.hid (HKw.out.nil hk); clear hk)
    clear p0 p1 p2 p3 p4 p5 p6 p7 p8 p9 pf pz d0 d1 d2 df HP4 HD4 HKw
    have p5 : w5.cell? ⟨w.heap.size, 5, none⟩ = some (.int .i64 mi) := Blk.cell_eq HB5.out rfl
    have p6 : w5.cell? ⟨w.heap.size, 6, none⟩ = some (.int .i64 mf) := Blk.cell_eq HB5.out rfl
    have p7 : w5.cell? ⟨w.heap.size, 7, none⟩ = some (.int .i64 xf) := Blk.cell_eq HB5.out rfl
    obtain ⟨d0, d1, d2, df⟩ := DecAt.all HD5.out
    refine Or.elim (Decidable.em ((mi : Int) < X.size)) (fun b1 => ?_) (fun b1 => ?_)
    have b2 : ¬ (X[0].toNat : Int) = 48 := HX5.out (by omega)
    rotate_left
    have b2 : True := trivial
    rotate_left
    all_goals
      go_upto_if 72 with fail
      go_cut [72] (fun _ wx => PatAt wx w.heap.size (.slice A1 n1 k1) (.slice A2 n2 k2) (.slice A3 n3 k3) (.slice A4 n4 k4) ⟨l1, l2, pn, l3, l4, mi, mf, xf, g, g2⟩ ∧ DecAt wx (w.heap.size + 1) false s sc ∧ Keep [] w wx)
      case first =>
        cases neg
        · go_wp2
          go_meet
          exact ⟨HB5.out, HD5.out, HK5.out⟩
        · have HNg2 := HNg w5 rfl
          go_wp2_with (go_at_call 31; refine HNg2.out.mono ?_; rintro e w6 ⟨rfl, hk⟩; have HB6 := Lib.hid (PatAt.keep HB5.out hk (by simp)); have HD6 := Lib.hid (DecAt.keep HD5.out hk (by simp)); have HK6 := Lib.hid (HK5.out.nil hk); clear hk; obtain ⟨s0, s1, s2, sf⟩ := DecAt.all HD6.out)
          go_meet
          refine ⟨((HB6.out.far (by simp) _).far (by simp) _).far (by simp) _, Blk.set_ (Blk.set_ (Blk.set_ HD6.out 0 (.bool false)) 1 (.string s)) 2 (.int .i64 sc), ?_⟩
          repeat (refine Keep.setCell ?_ (.inr (Nat.le_succ _)) _)
          exact HK6.out
      case rest =>
        obtain ⟨hB, hD, hK⟩ := hcut
        have HB7 := Lib.hid hB
        have HD7 := Lib.hid hD
        have HK7 := Lib.hid hK
        clear d0 d1 d2 df p5 p6 p7 HB5 HD5 HK5 hB hD hK HNg HDg2
        obtain ⟨d0, d1, d2, df⟩ := DecAt.all HD7.out
        have p7 : wc.cell? ⟨w.heap.size, 7, none⟩ = some (.int .i64 xf) := Blk.cell_eq HB7.out rfl
        go_upto_region 14 with (go_at_call 32; refine (HRd _).out.mono ?_; rintro e w8 ⟨rfl, hk⟩; have HK8 := Lib.hid (HK7.out.nil hk); clear hk)
        have HR9 := Lib.hid (Blk.new w8 51 #[.bool false, .string Rb, .int .i64 Sc])
        have HK9 := Lib.hid (HK8.out.alloc (.cells #[.bool false, .string Rb, .int .i64 Sc] 51))
        generalize w8.alloc (.cells #[.bool false, .string Rb, .int .i64 Sc] 51) = w9 at *
        generalize w8.heap.size = b8 at *
        clear d0 d1 d2 df p7 HB7 HD7 HK7 HK8 HRd
        go_upto_if 90 with (go_at_call 33; refine (HTr _).out.mono ?_; rintro e w' ⟨rfl, rfl⟩)
        go_cut [9, 90] (fun s9 _ wx => s9 = .string TX ∧ wx = w9)
        case first =>
          rcases HTY.out with ⟨he, ht⟩ | ⟨he, ht⟩
          · have HT9 := Lib.hid ht
            clear ht HTY
            go_wp2
            all_goals
              first
              | (exfalso; exact absurd (he.symm.trans (by assumption)) (by decide))
              | (go_meet; exact ⟨congrArg Value.string HT9.out.symm, rfl⟩)
          · have HT9 := Lib.hid ht
            clear ht HTY
            go_wp2
            all_goals
              first
              | (exfalso; exact absurd (he.symm.trans (by assumption)) (by decide))
              | (go_meet; exact ⟨congrArg Value.string HT9.out.symm, rfl⟩)
        case rest =>
          obtain ⟨rfl, rfl⟩ := hcut
          clear HTr HTY
          go_upto_if 92 with fail
          go_cut [9, 92] (fun s9 _ wx => s9 = .string T ∧ wx = wc)
          case first =>
            have hA1 : ∀ W, (Op.stringOp .add ⟨#[46]⟩ Y).run Tryd.prog W = .ok (.string ((⟨#[46]⟩ : ByteArray) ++ Y)) W := fun W => run_string_add_sum W _ _ (by have := HYs.out; show 1 + Y.size ≤ _; omega)
            have hA2 : ∀ W, (Op.stringOp .add TX ((⟨#[46]⟩ : ByteArray) ++ Y)).run Tryd.prog W = .ok (.string (TX ++ ((⟨#[46]⟩ : ByteArray) ++ Y))) W := fun W => run_string_add_sum W _ _ (by have h1 := HYs.out; have h2 := HTXs.out; rw [ByteArray.size_append]; show TX.size + (1 + Y.size) ≤ _; omega)
            rcases HT.out with ⟨hy, ht⟩ | ⟨hy, ht⟩
            · have HT9 := Lib.hid ht
              have hy2 : Y.toList.isEmpty = true := by rw [ByteArray.toList_eq, hy]; rfl
              clear ht hy
              go_wp2
              all_goals
                first
                | (exfalso; exact absurd ‹(!Y.toList.isEmpty) = true› (by rw [hy2]; decide))
                | (go_meet; exact ⟨congrArg Value.string HT9.out.symm, rfl⟩)
            · have HT9 := Lib.hid ht
              have hy2 : Y.toList.isEmpty = false := by
                rw [ByteArray.toList_eq]
                cases hl : Y.data.toList with
                | nil => exact absurd hl hy
                | cons a l => rfl
              clear ht hy
              go_wp2
              all_goals
                first
                | (exfalso; exact absurd ‹(!Y.toList.isEmpty) = false› (by rw [hy2]; decide))
                | (go_meet; exact ⟨congrArg Value.string HT9.out.symm, rfl⟩)
          case rest =>
            obtain ⟨rfl, rfl⟩ := hcut
            rcases HCm.out with rfl | ⟨rfl, hcm⟩
            · go_wp2_with (go_at_call 34; refine (HPs _).out.mono ?_; rintro e w10 ⟨rfl, hk⟩; have HK10 := Lib.hid (HK9.out.nil hk); clear hk)
              go_ret
              exact ⟨rfl, (HK10.out.alloc _).alloc _⟩
            · have HCp := fun W => Lib.hid (hcm W)
              clear hcm HCm
              go_wp2_with (first
                | (go_at_call 34; refine (HPs _).out.mono ?_; rintro e w10 ⟨rfl, hk⟩; have HR10 := Lib.hid (HR9.out.keep hk (by simp)); have HK10 := Lib.hid (HK9.out.nil hk); clear hk; have hlt : b8 < w10.heap.size := Blk.lt HR10.out; obtain ⟨n0, n1, n2, nf⟩ := DecAt.all HR10.out)
                | (go_at_call 35; refine (HCp _).out.mono ?_; rintro e w11 ⟨rfl, hk⟩; have HK11 := Lib.hid (((HK10.out.alloc _).alloc _).nil hk); clear hk))
              go_ret
              exact ⟨rfl, HK11.out⟩
end Go.Proofs.YtkkglaglnfebjaaDoor
