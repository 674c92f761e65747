/- Walks: numpat.Digits. -/
import Derived.Test.YtkkglaglnfebjaaDoorWRound
import Derived.Test.YtkkglaglnfebjaaDoorWPrint
import Derived.Test.YtkkglaglnfebjaaDoorWBelow
namespace Go.Proofs.YtkkglaglnfebjaaDoor
open Go.RowKit Go.IntWalk

/-- What both answer. -/
def digV (p : PatD) (l : List UInt8) (sc : Nat) : Value := .tuple #[.string ⟨(fillW p.mi.toNat (wholeD p.xf.toNat sc l)).toArray⟩, .string ⟨(fillF p.mf.toNat (fracD p.mf.toNat p.xf.toNat sc l)).toArray⟩, .int .i64 0]
def digNo : Value := .tuple #[.string ⟨#[]⟩, .string ⟨#[]⟩, .int .i64 2]
theorem txt_of (s : ByteArray) : (⟨s.data.toList.toArray⟩ : ByteArray) = s := by cases s; simp

set_option maxRecDepth 100000 in
set_option maxHeartbeats 1000000 in
theorem pdigits_bad (w : World) (v1 v2 v3 v4 : Value) (p : PatD) (neg : Bool) (s : ByteArray) (sc : Int) (hr : rightB p = false) (hp : RdP w v1 v2 v3 v4 p) (hsz : PatSz p) :
    Calls Tryd.prog 28 #[patV v1 v2 v3 v4 p, decV neg s sc] w fun e w' => e = .returned digNo ∧ Keep [] w w' := by
  have HK0 := Lib.hid (((Keep.refl [] w).alloc (boxP v1 v2 v3 v4 p)).alloc (.cells #[.bool neg, .string s, .int .i64 sc] 51))
  have HC := Lib.hid (pcheck_any ((w.alloc (boxP v1 v2 v3 v4 p)).alloc (.cells #[.bool neg, .string s, .int .i64 sc] 51)) v1 v2 v3 v4 p (hp.keep_nil HK0.out) hsz)
  rw [hr] at HC
  change Hid (Calls _ _ _ _ fun e w' => e = .returned (.int .i64 2) ∧ Keep [] _ w') at HC
  obtain ⟨A1, k1, rfl, -⟩ := hp.pre
  obtain ⟨A2, k2, rfl, -⟩ := hp.suf
  obtain ⟨A3, k3, rfl, -⟩ := hp.npre
  obtain ⟨A4, k4, rfl, -⟩ := hp.nsuf
  clear hp hr hsz
  unfold boxP at HC HK0
  simp only [patV, decV, digNo] at *
  go_enter Tryd.func28, Tryd.ntmps28
  go_wp2_with (go_at_call 20; refine HC.out.mono ?_; rintro e w' ⟨rfl, hk⟩)
  exact bodyPost_ret (v := .tuple #[.string ⟨#[]⟩, .string ⟨#[]⟩, .int .i64 2]) (by simp [results, Tryd.results28, go_sem]) rfl ⟨rfl, HK0.out.nil hk⟩
set_option maxRecDepth 100000 in
set_option maxHeartbeats 1000000 in
theorem pdigits_dec (w : World) (v1 v2 v3 v4 : Value) (p : PatD) (neg : Bool) (s : ByteArray) (sc : Int) (hr : rightB p = true) (hd : decB neg s sc = false) (hs : s.size ≤ 9223372036854775800) (hp : RdP w v1 v2 v3 v4 p) (hsz : PatSz p) :
    Calls Tryd.prog 28 #[patV v1 v2 v3 v4 p, decV neg s sc] w fun e w' => e = .returned digNo ∧ Keep [] w w' := by
  have HK0 := Lib.hid (((Keep.refl [] w).alloc (boxP v1 v2 v3 v4 p)).alloc (.cells #[.bool neg, .string s, .int .i64 sc] 51))
  have HD0 := Lib.hid (Blk.new' (w.alloc (boxP v1 v2 v3 v4 p)) 51 #[.bool neg, .string s, .int .i64 sc] (w.heap.size + 1) (by simp))
  have HC := Lib.hid (pcheck_any ((w.alloc (boxP v1 v2 v3 v4 p)).alloc (.cells #[.bool neg, .string s, .int .i64 sc] 51)) v1 v2 v3 v4 p (hp.keep_nil HK0.out) hsz)
  rw [hr] at HC
  change Hid (Calls _ _ _ _ fun e w' => e = .returned (.int .i64 0) ∧ Keep [] _ w') at HC
  have HE := fun W => Lib.hid (dcheck_any W neg s sc hs)
  rw [hd] at HE
  change ∀ W, Hid (Calls _ _ _ _ fun e w' => e = .returned (.int .i64 2) ∧ Keep [] _ w') at HE
  obtain ⟨A1, k1, rfl, -⟩ := hp.pre
  obtain ⟨A2, k2, rfl, -⟩ := hp.suf
  obtain ⟨A3, k3, rfl, -⟩ := hp.npre
  obtain ⟨A4, k4, rfl, -⟩ := hp.nsuf
  clear hp hr hsz hd
  unfold boxP at HC HK0 HD0
  simp only [patV, decV, digNo] at *
  go_enter Tryd.func28, Tryd.ntmps28
  go_wp2_with (first | (go_at_call 20; refine HC.out.mono ?_; rintro e w1 ⟨rfl, hk⟩; have HD1 := Lib.hid (DecAt.keep HD0.out hk (by simp)); have HK1 := Lib.hid (HK0.out.nil hk); clear hk; obtain ⟨d0, d1, d2, df⟩ := HD1.out.all) | (go_at_call 62; refine (HE _).out.mono ?_; rintro e w2 ⟨rfl, hk⟩))
  exact bodyPost_ret (v := .tuple #[.string ⟨#[]⟩, .string ⟨#[]⟩, .int .i64 2]) (by simp [results, Tryd.results28, go_sem]) rfl ⟨rfl, HK1.out.nil hk⟩
set_option maxRecDepth 100000 in
set_option maxHeartbeats 4000000 in
theorem pdigits_yes (w : World) (v1 v2 v3 v4 : Value) (p : PatD) (neg : Bool) (s : ByteArray) (sc : Nat) (hr : rightB p = true) (hd : decB neg s (sc : Int) = true) (hp : RdP w v1 v2 v3 v4 p) (hsz : PatSz p) :
    Calls Tryd.prog 28 #[patV v1 v2 v3 v4 p, decV neg s (sc : Int)] w fun e w' => e = .returned (digV p s.data.toList sc) ∧ Keep [] w w' := by
  obtain ⟨hcan, hs1, hs4, -, hsc, -⟩ := can_of hd
  have hsc : sc ≤ 400 := by omega
  have HN := Lib.hid (right_nums p hr).1
  have HK0 := Lib.hid (((Keep.refl [] w).alloc (boxP v1 v2 v3 v4 p)).alloc (.cells #[.bool neg, .string s, .int .i64 (sc : Int)] 51))
  have HB0 := Lib.hid ((PatAt.new w v1 v2 v3 v4 p).alloc (.cells #[.bool neg, .string s, .int .i64 (sc : Int)] 51))
  have HD0 := Lib.hid (Blk.new' (w.alloc (boxP v1 v2 v3 v4 p)) 51 #[.bool neg, .string s, .int .i64 (sc : Int)] (w.heap.size + 1) (by simp))
  have HC := Lib.hid (pcheck_any ((w.alloc (boxP v1 v2 v3 v4 p)).alloc (.cells #[.bool neg, .string s, .int .i64 (sc : Int)] 51)) v1 v2 v3 v4 p (hp.keep_nil HK0.out) hsz)
  rw [hr] at HC
  change Hid (Calls _ _ _ _ fun e w' => e = .returned (.int .i64 0) ∧ Keep [] _ w') at HC
  have HE := fun W => Lib.hid (dcheck_any W neg s (sc : Int) (by omega))
  rw [hd] at HE
  change ∀ W, Hid (Calls _ _ _ _ fun e w' => e = .returned (.int .i64 0) ∧ Keep [] _ w') at HE
  obtain ⟨A1, k1, rfl, -⟩ := hp.pre
  obtain ⟨A2, k2, rfl, -⟩ := hp.suf
  obtain ⟨A3, k3, rfl, -⟩ := hp.npre
  obtain ⟨A4, k4, rfl, -⟩ := hp.nsuf
  clear hp hr hsz hd
  unfold digV
  obtain ⟨l1, l2, pn, l3, l4, mi, mf, xf, g, g2⟩ := p
  obtain ⟨n1, n2, n3, n4, n5, n6⟩ := HN.out
  clear HN
  simp only at n1 n2 n3 n4 n5 n6
  obtain ⟨mi, rfl⟩ := Int.eq_ofNat_of_zero_le (show 0 ≤ mi by omega)
  obtain ⟨mf, rfl⟩ := Int.eq_ofNat_of_zero_le n5
  obtain ⟨xf, rfl⟩ := Int.eq_ofNat_of_zero_le n3
  simp only [Int.toNat_natCast]
  -- what comes out
  obtain ⟨D, hD⟩ : ∃ D : ByteArray, D = ⟨(digD mf xf sc s.data.toList).1.toArray⟩ := ⟨_, rfl⟩
  obtain ⟨E, hE⟩ : ∃ E : Nat, E = (digD mf xf sc s.data.toList).2 := ⟨_, rfl⟩
  obtain ⟨X, hX⟩ : ∃ X : ByteArray, X = ⟨(wholeD xf sc s.data.toList).toArray⟩ := ⟨_, rfl⟩
  obtain ⟨Y, hY⟩ : ∃ Y : ByteArray, Y = ⟨(fracD mf xf sc s.data.toList).toArray⟩ := ⟨_, rfl⟩
  obtain ⟨dc, dl, de⟩ := digD_can mf xf sc s.data.toList hcan (by rw [txt_len]; omega) hsc
  obtain ⟨kp, rs⟩ := digD_eq mf xf sc s.data.toList hcan.ok
  have hDl : D.data.toList = (digD mf xf sc s.data.toList).1 := by rw [hD]
  have hDE : decB false D (E : Int) = true := by
    rw [hD, hE]
    exact dc.decB dl _ (by omega) (by omega)
  have hDs : 1 ≤ D.size ∧ D.size ≤ 400 := by
    obtain ⟨_, h1, h2, _⟩ := can_of hDE
    exact ⟨h1, h2⟩
  have hXs : X.size ≤ 1000 := by
    rw [hX]
    show (wholeD xf sc s.data.toList).length ≤ _
    rw [← kp, keptT_len, ← hDl, txt_len]; omega
  have hYs : Y.size ≤ 1000 := by
    rw [hY]
    show (fracD mf xf sc s.data.toList).length ≤ _
    rw [← rs, restT_len]; omega
  have htl : (textD D.data.toList E).length ≤ 1000000 := by
    unfold textD
    split
    · rw [List.length_append, List.length_cons, keptT_len, restT_len, txt_len]; omega
    · rw [txt_len]; omega
  have HPr : ∀ W, Hid (Calls Tryd.prog 64 #[.agg #[.bool false, .string D, .int .i64 E]] W fun e w' => e = .returned (.tuple #[.string ⟨(textD D.data.toList E).toArray⟩, .int .i64 0]) ∧ Keep [] W w') := fun W => dprint_any W D E (by omega) hDE hDs.1 hDs.2
  have HCt : ∀ W, Hid (Calls Tryd.prog 65 #[.string ⟨(textD D.data.toList E).toArray⟩, .string ⟨#[46]⟩] W fun e w' => e = .returned (.tuple #[.string X, .string Y, .bool (decide (0 < E))]) ∧ Keep [] W w') := fun W => by
    have := cut_text W D.data.toList E (by rw [hDl]; exact dc.ok) (by rw [hDl]; exact dc.ne) htl
    rw [hX, hY, ← kp, ← rs, ← hDl, ← hE]
    exact this
  generalize (⟨(textD D.data.toList E).toArray⟩ : ByteArray) = TX at *
  generalize decide (0 < E) = fl at *
  have HR1 := fun W => Lib.hid (rep48 (mi - X.size) (by omega) W (max ((mi : Int) - X.size) 0) (by omega))
  have HR2 := fun W => Lib.hid (rep48 (mf - Y.size) (by omega) W (max ((mf : Int) - Y.size) 0) (by omega))
  have hr1 : (⟨Array.replicate (mi - X.size) 48⟩ : ByteArray).size = mi - X.size := by show (Array.replicate (mi - X.size) (48 : UInt8)).size = _; rw [Array.size_replicate]
  have hr2 : (⟨Array.replicate (mf - Y.size) 48⟩ : ByteArray).size = mf - Y.size := by show (Array.replicate (mf - Y.size) (48 : UInt8)).size = _; rw [Array.size_replicate]
  have HA1 : ∀ W, (Op.stringOp .add ⟨Array.replicate (mi - X.size) 48⟩ X).run Tryd.prog W = .ok (.string (⟨Array.replicate (mi - X.size) 48⟩ ++ X)) W := fun W => run_string_add_sum W _ _ (by rw [hr1]; omega)
  have HA2 : ∀ W, (Op.stringOp .add Y ⟨Array.replicate (mf - Y.size) 48⟩).run Tryd.prog W = .ok (.string (Y ++ ⟨Array.replicate (mf - Y.size) 48⟩)) W := fun W => run_string_add_sum W _ _ (by rw [hr2]; omega)
  have hFW : (⟨(fillW mi (wholeD xf sc s.data.toList)).toArray⟩ : ByteArray) = ⟨Array.replicate (mi - X.size) 48⟩ ++ X := by
    apply txt_ext
    rw [txt_cat, Array.toList_replicate, hX]; rfl
  have hFF : (⟨(fillF mf (fracD mf xf sc s.data.toList)).toArray⟩ : ByteArray) = Y ++ ⟨Array.replicate (mf - Y.size) 48⟩ := by
    apply txt_ext
    rw [txt_cat, Array.toList_replicate, hY]; rfl
  rw [hFW, hFF]
  have hw1 : IntKind.i64.wrap ((mi : Int) - X.size) = (mi : Int) - X.size := by simp [IntKind.wrap, IntKind.bits, IntKind.signed]; omega
  have hw2 : IntKind.i64.wrap ((mf : Int) - Y.size) = (mf : Int) - Y.size := by simp [IntKind.wrap, IntKind.bits, IntKind.signed]; omega
  have HDE := Lib.hid (And.intro hD hE)
  have HCan := Lib.hid hcan
  clear hFW hFF hr1 hr2 hX hY kp rs hDl hDE hDs hXs hYs htl dc dl de hD hE hcan n1 n2 n5 n3
  unfold boxP at HC HK0 HD0 HB0
  simp only [patV, decV] at *
  go_enter Tryd.func28, Tryd.ntmps28
  go_upto_region 7 with (first | (go_at_call 20; refine HC.out.mono ?_; rintro e w1 ⟨rfl, hk⟩; have HD1 := Lib.hid (DecAt.keep HD0.out hk (by simp)); have HB1 := Lib.hid (HB0.out.keep hk (by simp)); have HK1 := Lib.hid (HK0.out.nil hk); clear hk; obtain ⟨d0, d1, d2, df⟩ := HD1.out.all) | (go_at_call 62; refine (HE _).out.mono ?_; rintro e w2 ⟨rfl, hk⟩; have HD2 := Lib.hid (DecAt.keep HD1.out hk (by simp)); have HB2 := Lib.hid (HB1.out.keep hk (by simp)); have HK2 := Lib.hid (HK1.out.nil hk); clear hk))
  clear d0 d1 d2 df HD1 HB1 HK1 HD0 HB0 HK0 HC HE
  obtain ⟨d0, d1, d2, df⟩ := HD2.out.all
  go_upto_region 8 with fail
  have HD3 : Hid (DecAt (w2.setCell ⟨w.heap.size + 1, 0, none⟩ (.bool false)) (w.heap.size + 1) false s sc) := Blk.set_ HD2.out 0 (.bool false)
  have HB3 := Lib.hid (Blk.far HB2.out (p := ⟨w.heap.size + 1, 0, none⟩) (by simp) (.bool false))
  have HK3 : Hid (Keep [] w (w2.setCell ⟨w.heap.size + 1, 0, none⟩ (.bool false))) := HK2.out.setCell (.inr (Nat.le_succ _)) _
  generalize w2.setCell ⟨w.heap.size + 1, 0, none⟩ (.bool false) = w3 at *
  clear d0 d1 d2 df HD2 HB2 HK2
  obtain ⟨d0, d1, d2, df⟩ := HD3.out.all
  obtain ⟨p0, p1, p2, p3, p4, p5, p6, p7, p8, p9, pf, pz⟩ := PatAt.all HB3.out
  go_upto_if 31 with fail
  go_cut [9, 10, 31] (fun _ _ _ wx => PatAt wx w.heap.size (.slice A1 l1.length k1) (.slice A2 l2.length k2) (.slice A3 l3.length k3) (.slice A4 l4.length k4) ⟨l1, l2, pn, l3, l4, mi, mf, xf, g, g2⟩ ∧ DecAt wx (w.heap.size + 1) false D E ∧ Keep [] w wx)
  case first =>
    by_cases hx : (xf : Int) < sc
    · obtain ⟨c, rfl⟩ : ∃ c, sc = xf + c := ⟨sc - xf, by omega⟩
      have hc1 : 1 ≤ c := by omega
      obtain ⟨Rr, hRr⟩ : ∃ Rr : ByteArray, Rr = ⟨(roundP c s.data.toList).toArray⟩ := ⟨_, rfl⟩
      have hrc := round_can c HCan.out.ok
      have hrl := round_len c s.data.toList hc1 (by rw [txt_len]; omega) (by omega)
      have hRl : Rr.data.toList = roundP c s.data.toList := by rw [hRr]
      have hRb : decB false Rr (xf : Int) = true := by
        rw [hRr]
        exact hrc.decB hrl _ (by omega) (by omega)
      have hRs : 1 ≤ Rr.size ∧ Rr.size ≤ 400 := by
        obtain ⟨_, h1, h2, _⟩ := can_of hRb
        exact ⟨h1, h2⟩
      have hsb : decB false s ((xf + c : Nat) : Int) = true := by
        have := HCan.out.decB (by rw [txt_len]; omega) ((xf + c : Nat) : Int) (by omega) (by omega)
        rwa [txt_of] at this
      have HRd : ∀ W, Hid (Calls Tryd.prog 32 #[.agg #[.bool false, .string s, .int .i64 ((xf : Int) + c)], .int .i64 xf, .int .i64 1] W fun e w' => e = .returned (.tuple #[.agg #[.bool false, .string Rr, .int .i64 xf], .int .i64 0]) ∧ Keep [] W w') := fun W => by
        have := round_any W s xf c hc1 hsc hsb hs1 hs4 HCan.out.ok
        rw [hRr]
        exact this
      have hdg : D = ⟨(trimL xf (roundP c s.data.toList) mf).1.toArray⟩ ∧ E = (trimL xf (roundP c s.data.toList) mf).2 := by
        have := HDE.out
        unfold digD at this
        rw [if_pos (by omega), show xf + c - xf = c by omega] at this
        exact this
      have HTr : ∀ W, Hid (Calls Tryd.prog 63 #[.agg #[.bool false, .string Rr, .int .i64 xf], .int .i64 mf] W fun e w' => e = .returned (.tuple #[.agg #[.bool false, .string D, .int .i64 E], .int .i64 0]) ∧ Keep [] W w') := fun W => by
        have := trim_any W Rr xf mf (by omega) (by omega) hRb hRs.1 hRs.2
        rw [hRl] at this
        rw [hdg.1, hdg.2]
        exact this
      clear hRr hrc hrl hRl hRb hRs hsb hdg HDE
      rw [Int.natCast_add] at d2 hx
      go_wp2_with (first | (go_at_call 32; refine (HRd _).out.mono ?_; rintro e w4 ⟨rfl, hk⟩; have HD4 := Lib.hid (DecAt.keep HD3.out hk (by simp)); have HB4 := Lib.hid (HB3.out.keep hk (by simp)); have HK4 := Lib.hid (HK3.out.nil hk); clear hk; obtain ⟨p0', p1', p2', p3', p4', p5', p6', p7', p8', p9', pf', pz'⟩ := PatAt.all HB4.out) | (go_at_call 63; refine (HTr _).out.mono ?_; rintro e w5 ⟨rfl, hk⟩; have HD5 := Lib.hid (DecAt.keep (Blk.alloc HD4.out _) hk (by simp)); have HB5 := Lib.hid ((Blk.alloc HB4.out _).keep hk (by simp)); have HK5 := Lib.hid ((HK4.out.alloc _).nil hk); clear hk; obtain ⟨q0, q1, q2, qf⟩ := DecAt.all HD5.out))
      go_meet
      refine ⟨((HB5.out.far (by simp) _).far (by simp) _).far (by simp) _, Blk.set_ (Blk.set_ (Blk.set_ HD5.out 0 (.bool false)) 1 (.string D)) 2 (.int .i64 E), ?_⟩
      repeat (refine Keep.setCell ?_ (.inr (Nat.le_succ _)) _)
      exact HK5.out
    · have hdg : D = s ∧ E = sc := by
        have := HDE.out
        unfold digD at this
        rw [if_neg (by omega)] at this
        exact ⟨this.1.trans (txt_of s), this.2⟩
      have HDG := Lib.hid hdg
      clear hdg HDE
      go_wp2
      go_meet
      exact ⟨HB3.out, by rw [HDG.out.1, HDG.out.2]; exact HD3.out, HK3.out⟩
  case rest =>
    obtain ⟨hB, hD, hK⟩ := hcut
    have HB6 := Lib.hid hB
    have HD6 := Lib.hid hD
    have HK6 := Lib.hid hK
    clear d0 d1 d2 df p0 p1 p2 p3 p4 p5 p6 p7 p8 p9 pf pz HD3 HB3 HK3 hB hD hK HDE HCan
    obtain ⟨d0, d1, d2, df⟩ := DecAt.all HD6.out
    go_upto_region 19 with (first | (go_at_call 64; refine (HPr _).out.mono ?_; rintro e w7 ⟨rfl, hk⟩; have HB7 := Lib.hid (HB6.out.keep hk (by simp)); have HK7 := Lib.hid (HK6.out.nil hk); clear hk) | (go_at_call 65; refine (HCt _).out.mono ?_; rintro e w8 ⟨rfl, hk⟩; have HB8 := Lib.hid (HB7.out.keep hk (by simp)); have HK8 := Lib.hid (HK7.out.nil hk); clear hk))
    have p5 : w8.cell? ⟨w.heap.size, 5, none⟩ = some (.int .i64 mi) := Blk.cell_eq HB8.out rfl
    have p6 : w8.cell? ⟨w.heap.size, 6, none⟩ = some (.int .i64 mf) := Blk.cell_eq HB8.out rfl
    clear HB6 HK6 HB7 HK7 d0 d1 d2 df HD6 HPr HCt
    go_region_held3 (fun W => W.cell? ⟨w.heap.size, 5, none⟩ = some (.int .i64 mi) ∧ W.cell? ⟨w.heap.size, 6, none⟩ = some (.int .i64 mf)) (first | exact ⟨p5, p6⟩ | exact ⟨q5, q6⟩ | exact ⟨r5, r6⟩) (first | (have hz := HK9; go_at_call 48; refine (HR2 _).out.mono ?_; rintro e w10 ⟨rfl, hk⟩; have HB10 := Lib.hid (HB9.out.keep hk (by simp)); have HK10 := Lib.hid (HK9.out.nil hk); have r5 : w10.cell? ⟨w.heap.size, 5, none⟩ = some (.int .i64 mi) := Blk.cell_eq HB10.out rfl; have r6 : w10.cell? ⟨w.heap.size, 6, none⟩ = some (.int .i64 mf) := Blk.cell_eq HB10.out rfl; clear hk hz) | (go_at_call 48; refine (HR1 _).out.mono ?_; rintro e w9 ⟨rfl, hk⟩; have HB9 := Lib.hid ((HB8.out.drewN 1).keep hk (by simp)); have HK9 := Lib.hid ((HK8.out.drewN 1).nil hk); have q5 : w9.cell? ⟨w.heap.size, 5, none⟩ = some (.int .i64 mi) := Blk.cell_eq HB9.out rfl; have q6 : w9.cell? ⟨w.heap.size, 6, none⟩ = some (.int .i64 mf) := Blk.cell_eq HB9.out rfl; clear hk))
    all_goals
      go_wp2
      exact bodyPost_ret (v := .tuple #[.string ((⟨Array.replicate (mi - X.size) 48⟩ : ByteArray) ++ X), .string (Y ++ ⟨Array.replicate (mf - Y.size) 48⟩), .int .i64 0]) (by simp [results, Tryd.results28, go_sem]) rfl ⟨rfl, HK10.out⟩
end Go.Proofs.YtkkglaglnfebjaaDoor
