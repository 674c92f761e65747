/- Walks: ref16.Digits. -/
import Derived.Test.YtkkglaglnfebjaaDoorWRDec
import Derived.Test.YtkkglaglnfebjaaDoorWPDigits
namespace Go.Proofs.YtkkglaglnfebjaaDoor
open Go.RowKit Go.IntWalk

theorem plusQ_len : ∀ (l : List Int) (c : Int), (plusQ l [] c).length ≤ l.length + 1
  | [], c => by
    unfold plusQ
    split <;> simp
  | d :: r, c => by
    unfold plusQ
    have := plusQ_len r ((d + c) / 10)
    simp only [List.length_cons]
    omega
/-- What the document's answer is. -/
def digW (p : PatD) (l : List UInt8) (sc : Nat) : Value := .tuple #[.string ⟨(fillW p.mi.toNat (wholeD p.xf.toNat sc l)).toArray⟩, .string ⟨(fillF p.mf.toNat (fracD p.mf.toNat p.xf.toNat sc l)).toArray⟩]

set_option maxRecDepth 100000 in
set_option maxHeartbeats 4000000 in
theorem digits16_any (w : World) (v1 v2 v3 v4 : Value) (p : PatD) (neg : Bool) (s : ByteArray) (sc : Nat) (hr : rightB p = true) (hd : decB neg s (sc : Int) = true) (hp : RdP w v1 v2 v3 v4 p) :
    Calls Tryd.prog 30 #[patV v1 v2 v3 v4 p, decV neg s (sc : Int)] w fun e w' => e = .returned (digW p s.data.toList sc) ∧ Keep [] w w' := by
  obtain ⟨hcan, hs1, hs4, -, hsc, -⟩ := can_of hd
  have hsc : sc ≤ 400 := by omega
  have HN := Lib.hid (right_nums p hr).1
  obtain ⟨w3, hw3⟩ : ∃ W, W = (w.alloc (boxP v1 v2 v3 v4 p)).alloc (.cells #[.bool false, .string s, .int .i64 (sc : Int)] 51) := ⟨_, rfl⟩
  have HK3 : Hid (Keep [] w w3) := by rw [hw3]; exact ((Keep.refl [] w).alloc _).alloc _
  have HB3 : Hid (PatAt w3 w.heap.size v1 v2 v3 v4 p) := by rw [hw3]; exact (PatAt.new w v1 v2 v3 v4 p).alloc _
  have HD3 : Hid (DecAt w3 (w.heap.size + 1) false s (sc : Int)) := by rw [hw3]; exact Blk.new' _ _ _ _ (by simp)
  obtain ⟨A1, k1, rfl, -⟩ := hp.pre
  obtain ⟨A2, k2, rfl, -⟩ := hp.suf
  obtain ⟨A3, k3, rfl, -⟩ := hp.npre
  obtain ⟨A4, k4, rfl, -⟩ := hp.nsuf
  clear hp hr hd
  unfold digW
  obtain ⟨l1, l2, pn, l3, l4, mi, mf, xf, g, g2⟩ := p
  obtain ⟨n1, n2, n3, n4, n5, n6⟩ := HN.out
  clear HN
  simp only at n1 n2 n3 n4 n5 n6
  obtain ⟨mi, rfl⟩ := Int.eq_ofNat_of_zero_le (show 0 ≤ mi by omega)
  obtain ⟨mf, rfl⟩ := Int.eq_ofNat_of_zero_le n5
  obtain ⟨xf, rfl⟩ := Int.eq_ofNat_of_zero_le n3
  simp only [Int.toNat_natCast]
  obtain ⟨FW, hFW⟩ : ∃ F : ByteArray, F = ⟨(fillW mi (wholeD xf sc s.data.toList)).toArray⟩ := ⟨_, rfl⟩
  obtain ⟨FF, hFF⟩ : ∃ F : ByteArray, F = ⟨(fillF mf (fracD mf xf sc s.data.toList)).toArray⟩ := ⟨_, rfl⟩
  rw [← hFW, ← hFF]
  have HFW := Lib.hid hFW
  have HFF := Lib.hid hFF
  have HCan := Lib.hid hcan
  -- the digits and the scale behind the first if
  obtain ⟨D, hD⟩ : ∃ D : ByteArray, D = ⟨(if xf < sc then roundP (sc - xf) s.data.toList else s.data.toList).toArray⟩ := ⟨_, rfl⟩
  obtain ⟨E, hE⟩ : ∃ E : Nat, E = if xf < sc then xf else sc := ⟨_, rfl⟩
  have hDl : D.data.toList = if xf < sc then roundP (sc - xf) s.data.toList else s.data.toList := by rw [hD]
  have hDc : CanT D.data.toList ∧ D.data.toList.length ≤ 400 := by
    rw [hDl]
    by_cases hx : xf < sc
    · rw [if_pos hx]
      exact ⟨round_can _ hcan.ok, round_len _ _ (by omega) (by rw [txt_len]; omega) (by omega)⟩
    · rw [if_neg hx]
      exact ⟨hcan, by rw [txt_len]; omega⟩
  have hE4 : E ≤ 400 := by rw [hE]; split <;> omega
  have hkw : keptT E D.data.toList = wholeD xf sc s.data.toList := by
    rw [hDl, hE]
    unfold wholeD
    split <;> rfl
  obtain ⟨X, hX⟩ : ∃ X : ByteArray, X = ⟨(wholeD xf sc s.data.toList).toArray⟩ := ⟨_, rfl⟩
  obtain ⟨Y0, hY0⟩ : ∃ Y : ByteArray, Y = ⟨(restT E D.data.toList).toArray⟩ := ⟨_, rfl⟩
  have hDs : D.size = D.data.toList.length := (txt_len D).symm
  have hD1 : 1 ≤ D.size := by rw [hDs]; exact List.length_pos_iff.2 hDc.1.ne
  have htl : (textD D.data.toList E).length ≤ 1000000 := by
    unfold textD
    split
    · rw [List.length_append, List.length_cons, keptT_len, restT_len]; omega
    · omega
  have HPr : ∀ W, Hid (Calls Tryd.prog 69 #[.agg #[.bool false, .string D, .int .i64 E]] W fun e w' => e = .returned (.string ⟨(textD D.data.toList E).toArray⟩) ∧ Keep [] W w') := fun W => print03_any W D E hD1 (by omega) hE4 hDc.1.ok
  have HCt : ∀ W, Hid (Calls Tryd.prog 65 #[.string ⟨(textD D.data.toList E).toArray⟩, .string ⟨#[46]⟩] W fun e w' => e = .returned (.tuple #[.string X, .string Y0, .bool (decide (0 < E))]) ∧ Keep [] W w') := fun W => by
    have := cut_text W D.data.toList E hDc.1.ok hDc.1.ne htl
    rw [hX, hY0, ← hkw]
    exact this
  have hXs : X.size ≤ 1000 := by
    rw [hX, ← hkw]
    show (keptT E D.data.toList).length ≤ _
    rw [keptT_len]; omega
  have hYs : Y0.size = E := by
    rw [hY0]
    exact restT_len E D.data.toList
  have HXe := Lib.hid hX
  have HY0 := Lib.hid hY0
  have HDl := Lib.hid hDl
  have HEe := Lib.hid hE
  have HDe := Lib.hid hD
  generalize (⟨(textD D.data.toList E).toArray⟩ : ByteArray) = TX at *
  generalize decide (0 < E) = fl at *
  clear hFW hFF hD hE hDl hDc hkw hX hY0 hDs hD1 htl hcan
  have HYs := Lib.hid hYs
  have HXs := Lib.hid hXs
  clear hYs hXs
  unfold boxP at hw3
  simp only [patV, decV] at *
  go_enter Tryd.func30, Tryd.ntmps30
  go_upto_region 2 with fail
  rw [← hw3]
  clear hw3
  obtain ⟨d0, d1, d2, df⟩ := HD3.out.all
  have p7 : w3.cell? ⟨w.heap.size, 7, none⟩ = some (.int .i64 xf) := Blk.cell_eq HB3.out rfl
  go_upto_if 19 with fail
  go_cut [7, 19] (fun _ _ wx => PatAt wx w.heap.size (.slice A1 l1.length k1) (.slice A2 l2.length k2) (.slice A3 l3.length k3) (.slice A4 l4.length k4) ⟨l1, l2, pn, l3, l4, mi, mf, xf, g, g2⟩ ∧ DecAt wx (w.heap.size + 1) false D E ∧ Keep [] w wx)
  case first =>
    by_cases hx : (xf : Int) < sc
    · obtain ⟨c, rfl⟩ : ∃ c, sc = xf + c := ⟨sc - xf, by omega⟩
      have hc1 : 1 ≤ c := by omega
      have hxn : xf < xf + c := by omega
      have HRw := fun W => Lib.hid (row_any W false s ((xf + c : Nat) : Int) (by omega) HCan.out.ok)
      have hDr : D = ⟨(madeR (roundR c (rowOf s.data.toList))).toArray⟩ := by
        rw [HDe.out, if_pos hxn, show xf + c - xf = c by omega, round_eq c _ HCan.out.ok hc1]
      have hEx : E = xf := by rw [HEe.out, if_pos hxn]
      have hml : (madeR (roundR c (rowOf s.data.toList))).length ≤ 400 := by
        rw [round_eq c _ HCan.out.ok hc1]
        exact round_len _ _ hc1 (by rw [txt_len]; omega) (by omega)
      have hok := okR_row _ HCan.out.ok
      have hrl : (roundR c (rowOf s.data.toList)).length ≤ 1000 ∧ okR (roundR c (rowOf s.data.toList)) := by
        have h1 := okR_drop _ c hok
        have h2 : ((rowOf s.data.toList).drop c).length ≤ 400 := by rw [List.length_drop, rowOf_len, txt_len]; omega
        unfold roundR
        split
        · rw [plusQ_one _ h1]
          split
          · exact ⟨by simp, by intro x hx; simp at hx; omega⟩
          · have h3 := plusQ_len ((rowOf s.data.toList).drop c) 1
            exact ⟨by omega, okR_plusQ _ h1⟩
        · exact ⟨by omega, h1⟩
      have HRo : ∀ (W : World) (v : Value), RdI W v (rowOf s.data.toList) → Hid (Calls Tryd.prog 67 #[.bool false, v, .int .i64 c, .int .i64 1] W fun e w' => ∃ v', e = .returned v' ∧ RdI w' v' (roundR c (rowOf s.data.toList)) ∧ Keep [] W w') := fun W v hv =>
        round03_any W v _ c hv hok (by rw [rowOf_len, txt_len]; omega) hc1 (by omega)
      have HMd : ∀ (W : World) (v : Value), RdI W v (roundR c (rowOf s.data.toList)) → Hid (Calls Tryd.prog 68 #[.bool false, v, .int .i64 xf] W fun e w' => e = .returned (.tuple #[.agg #[.bool false, .string D, .int .i64 E], .int .i64 0]) ∧ Keep [] W w') := fun W v hv => by
        have := made03_all W v _ xf hv hrl.2 hrl.1 hml (by omega)
        rw [hDr, hEx]
        exact this
      have hw1 : IntKind.i64.wrap ((xf : Int) + c - xf) = c := by simp [IntKind.wrap, IntKind.bits, IntKind.signed]; omega
      clear hDr hEx hml hok hrl HDe HEe HDl
      generalize rowOf s.data.toList = R0 at *
      generalize roundR c R0 = R1 at *
      unfold decV at HRw
      simp only [Int.natCast_add] at HRw d2 hx
      have HD3' : Hid (DecAt w3 (w.heap.size + 1) false s ((xf : Int) + c)) := HD3.out
      clear HD3 HY0 HXe HFW HFF
      go_wp2_with (first
        | (go_at_call 66; refine (HRw _).out.mono ?_; rintro e w4 ⟨v4, rfl, hO4, hk⟩; have HR4 := Lib.hid hO4.reads; have HD4 := Lib.hid (DecAt.keep HD3'.out hk (by simp)); have HB4 := Lib.hid (HB3.out.keep hk (by simp)); have HK4 := Lib.hid (HK3.out.nil hk); have q7 : w4.cell? ⟨w.heap.size, 7, none⟩ = some (.int .i64 xf) := Blk.cell_eq HB4.out rfl; have q2 : w4.cell? ⟨w.heap.size + 1, 2, none⟩ = some (.int .i64 ((xf : Int) + c)) := Blk.cell_eq HD4.out rfl; clear hk hO4)
        | (go_at_call 67; refine (HRo _ _ HR4.out).out.mono ?_; rintro e w5 ⟨v5, rfl, hR5, hk⟩; have HR5 := Lib.hid hR5; have HD5 := Lib.hid (DecAt.keep HD4.out hk (by simp)); have HB5 := Lib.hid (HB4.out.keep hk (by simp)); have HK5 := Lib.hid (HK4.out.nil hk); have r7 : w5.cell? ⟨w.heap.size, 7, none⟩ = some (.int .i64 xf) := Blk.cell_eq HB5.out rfl; clear hk hR5)
        | (go_at_call 68; refine (HMd _ _ HR5.out).out.mono ?_; rintro e w6 ⟨rfl, hk⟩; have HD6 := Lib.hid (DecAt.keep HD5.out hk (by simp)); have HB6 := Lib.hid (HB5.out.keep hk (by simp)); have HK6 := Lib.hid (HK5.out.nil hk); clear hk; obtain ⟨s0, s1, s2, sf⟩ := HD6.out.all))
      go_meet
      refine ⟨((HB6.out.far (by simp) _).far (by simp) _).far (by simp) _, Blk.set_ (Blk.set_ (Blk.set_ HD6.out 0 (.bool false)) 1 (.string D)) 2 (.int .i64 E), ?_⟩
      repeat (refine Keep.setCell ?_ (.inr (Nat.le_succ _)) _)
      exact HK6.out
    · have hdg : D = s ∧ E = sc := by
        have h1 := HDe.out
        have h2 := HEe.out
        rw [if_neg (by omega)] at h1 h2
        exact ⟨h1.trans (txt_of s), h2⟩
      have HDG := Lib.hid hdg
      clear hdg HDe HEe HDl
      go_wp2
      go_meet
      exact ⟨HB3.out, by rw [HDG.out.1, HDG.out.2]; exact HD3.out, HK3.out⟩
  case rest =>
    obtain ⟨hB, hD, hK⟩ := hcut
    have HB6 := Lib.hid hB
    have HD6 := Lib.hid hD
    have HK6 := Lib.hid hK
    clear d0 d1 d2 df p7 HD3 HB3 HK3 hB hD hK HDe
    obtain ⟨d0, d1, d2, df⟩ := HD6.out.all
    go_upto_region 9 with (first | (go_at_call 69; refine (HPr _).out.mono ?_; rintro e w7 ⟨rfl, hk⟩; have HB7 := Lib.hid (HB6.out.keep hk (by simp)); have HK7 := Lib.hid (HK6.out.nil hk); clear hk) | (go_at_call 65; refine (HCt _).out.mono ?_; rintro e w8 ⟨rfl, hk⟩; have HB8 := Lib.hid (HB7.out.keep hk (by simp)); have HK8 := Lib.hid (HK7.out.nil hk); clear hk))
    have p5 : w8.cell? ⟨w.heap.size, 5, none⟩ = some (.int .i64 mi) := Blk.cell_eq HB8.out rfl
    have p6 : w8.cell? ⟨w.heap.size, 6, none⟩ = some (.int .i64 mf) := Blk.cell_eq HB8.out rfl
    have p7 : w8.cell? ⟨w.heap.size, 7, none⟩ = some (.int .i64 xf) := Blk.cell_eq HB8.out rfl
    clear HB6 HK6 HB7 HK7 d0 d1 d2 df HD6 HPr HCt HB8
    go_upto_if 49 with fail
    go_cut [10, 49] (fun s10 _ wx => (∃ Y : ByteArray, s10 = .string Y ∧ Y.data.toList = fracD mf xf sc s.data.toList ∧ Y.size ≤ 400) ∧ wx = w8)
    case first =>
      by_cases hx : (xf : Int) < sc
      · have hxn : xf < sc := by omega
        have hEx : E = xf := by rw [HEe.out, if_pos hxn]
        have hyl : stripL mf xf Y0.data.toList = fracD mf xf sc s.data.toList := by
          unfold fracD
          rw [if_pos hxn, HY0.out]
          show stripL mf xf (restT E D.data.toList) = _
          rw [hEx, HDl.out, if_pos hxn]
        have HYl := Lib.hid hyl
        have HYx : Hid (Y0.size = xf) := HYs.out.trans hEx
        clear hyl hEx HY0 HDl HEe HXe HFW HFF HYs
        go_wp2
        go_loopg [10] xf (fun k s10 wx => ∃ y : ByteArray, s10 = .string y ∧ y.size = k ∧ k ≤ 64 ∧ stripL mf k y.data.toList = fracD mf xf sc s.data.toList ∧ wx = w8)
        case atStart => exact ⟨Y0, rfl, HYx.out, by omega, HYl.out, rfl⟩
        case round =>
          obtain ⟨y, rfl, hys, hk4, hst, rfl⟩ := hrel
          rcases gk with _ | q
          · have hst2 : y.data.toList = fracD mf xf sc s.data.toList := hst
            have hc : ¬ (mf : Int) < y.size := by omega
            have HST := Lib.hid hst2
            clear hst hst2
            have hy4 : y.size ≤ 400 := by omega
            have HY4 := Lib.hid hy4
            clear hy4 hys
            go_wp2
            go_meet
            exact ⟨⟨y, rfl, HST.out, HY4.out⟩, rfl⟩
          · have hql : q < y.size := by omega
            have hlb := last_byte y q hys hql
            have hdl := drop_last y q hys
            have hw1 : IntKind.i64.wrap ((y.size : Int) - 1) = q := by rw [hys]; simp [IntKind.wrap, IntKind.bits, IntKind.signed]; omega
            have HYS := Lib.hid hys
            have hy4 : y.size ≤ 400 := by omega
            have HY4 := Lib.hid hy4
            have hstep : stripL mf (q + 1) y.data.toList = if mf < y.size ∧ (y[q].toNat : Int) = 48 then stripL mf q y.data.toList.dropLast else y.data.toList := by
              rw [stripL, hlb, txt_len]
              by_cases h1 : mf < y.size ∧ (y[q].toNat : Int) = 48
              · rw [if_pos h1, if_pos ⟨h1.1, by congr 1; apply UInt8.toNat_inj.1; show y[q].toNat = 48; omega⟩]
              · rw [if_neg h1, if_neg (fun h2 => h1 ⟨h2.1, by rw [Option.some.inj h2.2]; rfl⟩)]
            have HST : Hid ((if mf < y.size ∧ (y[q].toNat : Int) = 48 then stripL mf q y.data.toList.dropLast else y.data.toList) = fracD mf xf sc s.data.toList) := hstep.symm.trans hst
            have HDL := Lib.hid hdl
            clear hst hlb hdl hstep hys hy4
            refine Or.elim (Decidable.em ((mf : Int) < y.size)) (fun c1 => ?_) (fun c1 => ?_)
            · refine Or.elim (Decidable.em ((y[q].toNat : Int) = 48)) (fun c2 => ?_) (fun c2 => ?_)
              · have HN1 : Hid ((y.extract 0 q).size = q ∧ stripL mf q (y.extract 0 q).data.toList = fracD mf xf sc s.data.toList) := by
                  refine ⟨?_, ?_⟩
                  · have := HYS.out
                    rw [ByteArray.size_extract]; omega
                  · rw [HDL.out, ← HST.out, if_pos ⟨by omega, c2⟩]
                clear HST
                go_wp2
                go_roundg q
                case measure => omega
                case rel => exact ⟨_, rfl, HN1.out.1, by omega, HN1.out.2, rfl⟩
              · have HST2 : Hid (y.data.toList = fracD mf xf sc s.data.toList) := by
                  unfold Hid
                  rw [← HST.out, if_neg (fun h => c2 h.2)]
                clear HST
                go_wp2
                go_meet
                exact ⟨⟨y, rfl, HST2.out, HY4.out⟩, rfl⟩
            · have HST2 : Hid (y.data.toList = fracD mf xf sc s.data.toList) := by
                unfold Hid
                rw [← HST.out, if_neg (fun h => c1 (by omega))]
              clear HST
              go_wp2
              go_meet
              exact ⟨⟨y, rfl, HST2.out, HY4.out⟩, rfl⟩
      · have HYl : Hid (Y0.data.toList = fracD mf xf sc s.data.toList ∧ Y0.size ≤ 400) := by
          have h1 : E = sc := by rw [HEe.out, if_neg (by omega)]
          refine ⟨?_, by rw [HYs.out]; exact hE4⟩
          unfold fracD
          rw [if_neg (by omega), HY0.out]
          show restT E D.data.toList = _
          rw [h1, HDl.out, if_neg (by omega)]
        clear HY0 HDl HEe HXe HFW HFF HYs
        go_wp2
        go_meet
        exact ⟨⟨Y0, rfl, HYl.out.1, HYl.out.2⟩, rfl⟩
    case rest =>
      obtain ⟨⟨Y, rfl, hyl, hy4⟩, rfl⟩ := hcut
      have hFF : FF.data.toList = Y.data.toList ++ List.replicate (mf - Y.size) 48 := by
        rw [HFF.out]
        show fillF mf (fracD mf xf sc s.data.toList) = _
        rw [← hyl]
        unfold fillF
        rw [txt_len]
      have hFW : FW.data.toList = List.replicate (mi - X.size) 48 ++ X.data.toList := by
        rw [HFW.out, HXe.out]
        rfl
      have HF := Lib.hid hFF
      have HW := Lib.hid hFW
      have HY4 := Lib.hid hy4
      clear hFF hFW hyl hy4 HXe HFF HFW HY0 HDl HEe HYs HCan p7
      go_wp2
      go_loopg [10] (mf - Y.size) (fun k s10 wx => ∃ y : ByteArray, s10 = .string y ∧ y.size + k = max mf Y.size ∧ k ≤ mf - Y.size ∧ y.data.toList ++ List.replicate k 48 = FF.data.toList ∧ wx = wc)
      case atStart => exact ⟨Y, rfl, by omega, Nat.le_refl _, HF.out.symm, rfl⟩
      case round =>
        obtain ⟨y, rfl, hyk, hk, hl, rfl⟩ := hrel
        rcases gk with _ | k
        · obtain rfl : y = FF := txt_ext _ _ (by rw [← hl]; exact (List.append_nil _).symm)
          have hc : ¬ (y.size : Int) < mf := by omega
          clear hl hyk HF HY4
          go_wp2
          go_loopg [9] (mi - X.size) (fun k s9 wx => ∃ x : ByteArray, s9 = .string x ∧ x.size + k = max mi X.size ∧ k ≤ mi - X.size ∧ List.replicate k 48 ++ x.data.toList = FW.data.toList ∧ wx = wr)
          case atStart => exact ⟨X, rfl, by omega, Nat.le_refl _, HW.out.symm, rfl⟩
          case round =>
            obtain ⟨x, rfl, hxk, hk3, hl3, rfl⟩ := hrel
            rcases gk with _ | k
            · obtain rfl : x = FW := txt_ext _ _ (by rw [← hl3]; rfl)
              have hc3 : ¬ (x.size : Int) < mi := by omega
              clear hl3 hxk HW HXs
              go_wp2
              go_ret2
              exact ⟨rfl, HK8.out⟩
            · have hc3 : (x.size : Int) < mi := by omega
              have hA : ∀ W : World, (Op.stringOp .add ⟨#[48]⟩ x).run Tryd.prog W = .ok (.string ((⟨#[48]⟩ : ByteArray) ++ x)) W := fun W => run_string_add_sum W _ _ (by show 1 + x.size ≤ _; omega)
              have HN1 : Hid (((⟨#[48]⟩ : ByteArray) ++ x).size + k = max mi X.size ∧ List.replicate k 48 ++ ((⟨#[48]⟩ : ByteArray) ++ x).data.toList = FW.data.toList) := by
                refine ⟨by rw [ByteArray.size_append]; show 1 + x.size + k = _; omega, ?_⟩
                rw [← hl3, txt_cat, List.replicate_succ', List.append_assoc]
              clear hl3 hxk
              go_wp2
              go_roundg k
              case measure => omega
              case rel => exact ⟨_, rfl, HN1.out.1, by omega, HN1.out.2, rfl⟩
        · have hc : (y.size : Int) < mf := by omega
          have hA : ∀ W : World, (Op.stringOp .add y ⟨#[48]⟩).run Tryd.prog W = .ok (.string (y ++ ⟨#[48]⟩)) W := fun W => run_string_add_sum W _ _ (by show y.size + 1 ≤ _; omega)
          have HN1 : Hid ((y ++ ⟨#[48]⟩).size + k = max mf Y.size ∧ (y ++ ⟨#[48]⟩).data.toList ++ List.replicate k 48 = FF.data.toList) := by
            refine ⟨by rw [ByteArray.size_append]; show y.size + 1 + k = _; omega, ?_⟩
            rw [← hl, txt_cat, List.replicate_succ, List.append_assoc]; rfl
          clear hl hyk
          go_wp2
          go_roundg k
          case measure => omega
          case rel => exact ⟨_, rfl, HN1.out.1, by omega, HN1.out.2, rfl⟩
end Go.Proofs.YtkkglaglnfebjaaDoor
