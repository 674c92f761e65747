/- Walks: slices.Compare of equal bytes, level, dec.Compare of equals. -/
import Derived.Test.YtkkglaglnfebjaaDoorWCmp
namespace Go.Proofs.YtkkglaglnfebjaaDoor
open Go.RowKit Go.IntWalk

set_option maxRecDepth 100000 in
theorem nan_any (w : World) (x : Int) : Calls Tryd.prog 129 #[.int .u8 x] w fun e w' => e = .returned (.bool false) ∧ w = w' := by
  go_enter Tryd.func129, Tryd.ntmps129
  go_wp2
  go_ret
  exact ⟨by simp, rfl⟩
set_option maxRecDepth 100000 in
theorem cmp_eq (w : World) (x : Int) : Calls Tryd.prog 113 #[.int .u8 x, .int .u8 x] w fun e w' => e = .returned (.int .i64 0) ∧ w = w' := by
  have HN := fun W => Lib.hid (nan_any W x)
  have hx : ¬ x < x := Int.lt_irrefl _
  go_enter Tryd.func113, Tryd.ntmps113
  go_wp2_with (go_at_call 129; refine (HN _).out.mono ?_; rintro e w' ⟨rfl, rfl⟩)
  go_ret
  exact ⟨rfl, rfl⟩
set_option maxRecDepth 100000 in
set_option maxHeartbeats 1000000 in
theorem scmp_eq (w : World) (v u : Value) (t : ByteArray) (hv : RdU w v t) (hu : RdU w u t) (ht : t.size ≤ 1000000) :
    Calls Tryd.prog 84 #[v, u] w fun e w' => e = .returned (.int .i64 0) ∧ w = w' := by
  obtain ⟨g1, c1, rfl, hg1, hx⟩ := hv
  obtain ⟨g2, c2, rfl, hg2, hy⟩ := hu
  have HX := Lib.hid hx
  have HY := Lib.hid hy
  have HT := Lib.hid ht
  clear hx hy ht
  go_enter Tryd.func84, Tryd.ntmps84
  go_wp2
  go_loopg [11] t.size (fun k s11 wx => ∃ i : Nat, s11 = .int .i64 i ∧ i + k = t.size ∧ wx = w)
  case atStart => exact ⟨0, rfl, by omega, rfl⟩
  case round =>
    obtain ⟨i, rfl, hik, rfl⟩ := hrel
    rcases gk with _ | k
    · have hi : ¬ (i : Int) < t.size := by omega
      have hl : ¬ (t.size : Int) < t.size := Int.lt_irrefl _
      go_wp2
      go_ret
      exact ⟨rfl, rfl⟩
    · have hi : i < t.size := by omega
      have hcx := HX.out i hi
      have hcy := HY.out i hi
      have hge : ¬ (t.size : Int) ≤ i := by omega
      have hw : IntKind.i64.wrap ((i : Int) + 1) = (i : Int) + 1 := by have := HT.out; simp [IntKind.wrap, IntKind.bits, IntKind.signed]; omega
      have HC := Lib.hid (cmp_eq wr (t[i].toNat : Int))
      generalize (t[i].toNat : Int) = x at *
      go_wp2_with (go_at_call 113; refine HC.out.mono ?_; rintro e w' ⟨rfl, rfl⟩)
      go_roundg k
      case measure => omega
      case rel => exact ⟨i + 1, by go_num, by omega, rfl⟩

/-- Noughts. -/
def zsB (n : Nat) : ByteArray := ⟨Array.replicate n 48⟩
theorem zsB_size (n : Nat) : (zsB n).size = n := by show (Array.replicate n (48 : UInt8)).size = n; rw [Array.size_replicate]
theorem repZ (n : Nat) (h1 : n ≤ 1000) (W : World) (N : Int) (hN : N = n) :
    Calls Tryd.prog 48 #[.string ⟨#[48]⟩, .int .i64 N] W fun e w' => e = .returned (.string (zsB n)) ∧ Keep [] W w' := rep48 n h1 W N hN
/-- Both at one scale; at one length. -/
def scB (s : ByteArray) (n : Nat) : ByteArray := s ++ zsB n
def lnB (s : ByteArray) (n : Nat) : ByteArray := zsB (n - s.size) ++ s

set_option maxRecDepth 100000 in
set_option maxHeartbeats 2000000 in
theorem level_any (w : World) (s t : ByteArray) (sc tc : Nat) (hs : s.size ≤ 400) (ht : t.size ≤ 400) (hsc : sc ≤ 400) (htc : tc ≤ 400) (M n : Nat) (hM : M = max sc tc) (hn : n = max (scB s (M - sc)).size (scB t (M - tc)).size) :
    Calls Tryd.prog 83 #[decV false s (sc : Int), decV false t (tc : Int)] w fun e w' => ∃ v u, e = .returned (.tuple #[v, u, .int .i64 M]) ∧ RdU w' v (lnB (scB s (M - sc)) n) ∧ RdU w' u (lnB (scB t (M - tc)) n) ∧ Keep [] w w' := by
  have HB0 := Lib.hid ((Blk.new w 51 #[.bool false, .string s, .int .i64 (sc : Int)]).alloc (.cells #[.bool false, .string t, .int .i64 (tc : Int)] 51))
  have HC0 := Lib.hid (Blk.new' (w.alloc (.cells #[.bool false, .string s, .int .i64 (sc : Int)] 51)) 51 #[.bool false, .string t, .int .i64 (tc : Int)] (w.heap.size + 1) (by simp))
  have HK0 := Lib.hid (((Keep.refl [] w).alloc (.cells #[.bool false, .string s, .int .i64 (sc : Int)] 51)).alloc (.cells #[.bool false, .string t, .int .i64 (tc : Int)] 51))
  have hm2 : max (sc : Int) tc = M := by omega
  have hw1 : IntKind.i64.wrap ((M : Int) - sc) = (M : Int) - sc := by simp [IntKind.wrap, IntKind.bits, IntKind.signed]; omega
  have hw2 : IntKind.i64.wrap ((M : Int) - tc) = (M : Int) - tc := by simp [IntKind.wrap, IntKind.bits, IntKind.signed]; omega
  have HR1 := fun W => Lib.hid (repZ (M - sc) (by omega) W ((M : Int) - sc) (by omega))
  have HR2 := fun W => Lib.hid (repZ (M - tc) (by omega) W ((M : Int) - tc) (by omega))
  have HA1 : ∀ W, (Op.stringOp .add s (zsB (M - sc))).run Tryd.prog W = .ok (.string (scB s (M - sc))) W := fun W => run_string_add_sum W _ _ (by rw [zsB_size]; omega)
  have HA2 : ∀ W, (Op.stringOp .add t (zsB (M - tc))).run Tryd.prog W = .ok (.string (scB t (M - tc))) W := fun W => run_string_add_sum W _ _ (by rw [zsB_size]; omega)
  have hS1 : (scB s (M - sc)).size ≤ 800 := by unfold scB; rw [ByteArray.size_append, zsB_size]; omega
  have hT1 : (scB t (M - tc)).size ≤ 800 := by unfold scB; rw [ByteArray.size_append, zsB_size]; omega
  generalize scB s (M - sc) = S1 at *
  generalize scB t (M - tc) = T1 at *
  have hn2 : max (S1.size : Int) T1.size = n := by omega
  have hw3 : IntKind.i64.wrap ((n : Int) - S1.size) = (n : Int) - S1.size := by simp [IntKind.wrap, IntKind.bits, IntKind.signed]; omega
  have hw4 : IntKind.i64.wrap ((n : Int) - T1.size) = (n : Int) - T1.size := by simp [IntKind.wrap, IntKind.bits, IntKind.signed]; omega
  have HR3 := fun W => Lib.hid (repZ (n - S1.size) (by omega) W ((n : Int) - S1.size) (by omega))
  have HR4 := fun W => Lib.hid (repZ (n - T1.size) (by omega) W ((n : Int) - T1.size) (by omega))
  have HA3 : ∀ W, (Op.stringOp .add (zsB (n - S1.size)) S1).run Tryd.prog W = .ok (.string (lnB S1 n)) W := fun W => run_string_add_sum W _ _ (by rw [zsB_size]; omega)
  have HA4 : ∀ W, (Op.stringOp .add (zsB (n - T1.size)) T1).run Tryd.prog W = .ok (.string (lnB T1 n)) W := fun W => run_string_add_sum W _ _ (by rw [zsB_size]; omega)
  have cv1 := fun W => run_bytes W (lnB S1 n)
  have cv2 := fun W => run_bytes W (lnB T1 n)
  generalize lnB S1 n = X at *
  generalize lnB T1 n = Y at *
  unfold decV
  clear hM hn hS1 hT1
  obtain ⟨d0, d1, d2, df⟩ := DecAt.all HB0.out
  obtain ⟨e0, e1, e2, ef⟩ := DecAt.all HC0.out
  clear d0 e0 df ef
  go_enter Tryd.func83, Tryd.ntmps83
  go_upto_region 2 with fail
  go_region_held3 (fun W => W.cell? ⟨w.heap.size, 1, none⟩ = some (.string s) ∧ W.cell? ⟨w.heap.size, 2, none⟩ = some (.int .i64 sc) ∧ W.cell? ⟨w.heap.size + 1, 1, none⟩ = some (.string t) ∧ W.cell? ⟨w.heap.size + 1, 2, none⟩ = some (.int .i64 tc)) (first | exact ⟨d1, d2, e1, e2⟩ | exact ⟨q1, q2, r1, r2⟩ | exact ⟨x1, x2, y1, y2⟩) (first
    | (have hz := HK1; clear hz; go_at_call 48; refine (HR2 _).out.mono ?_; rintro e w2 ⟨rfl, hk⟩; have HB2 := Lib.hid (HB1.out.keep hk (by simp)); have HC2 := Lib.hid (HC1.out.keep hk (by simp)); have HK2 := Lib.hid (HK1.out.nil hk); obtain ⟨x0, x1, x2, xf⟩ := DecAt.all HB2.out; obtain ⟨y0, y1, y2, yf⟩ := DecAt.all HC2.out; clear hk)
    | (go_at_call 48; refine (HR1 _).out.mono ?_; rintro e w1 ⟨rfl, hk⟩; have HB1 := Lib.hid ((Blk.drewN HB0.out 1).keep hk (by simp)); have HC1 := Lib.hid ((Blk.drewN HC0.out 1).keep hk (by simp)); have HK1 := Lib.hid ((HK0.out.drewN 1).nil hk); obtain ⟨q0, q1, q2, qf⟩ := DecAt.all HB1.out; obtain ⟨r0, r1, r2, rf⟩ := DecAt.all HC1.out; clear hk))
  clear q0 q1 q2 qf r0 r1 r2 rf x0 x1 x2 xf y0 y1 y2 yf HB0 HC0 HB1 HC1 HB2 HC2 HR1 HR2 HA1 HA2 d1 d2 e1 e2
  go_wp2_with (first
    | (have hz := HK3; clear hz; go_at_call 48; refine (HR4 _).out.mono ?_; rintro e w4 ⟨rfl, hk4⟩; have HK4 := Lib.hid hk4; clear hk4)
    | (go_at_call 48; refine (HR3 _).out.mono ?_; rintro e w3 ⟨rfl, hk⟩; have HK3 := Lib.hid (HK2.out.nil hk); clear hk))
  refine bodyPost_ret (v := .tuple #[.slice (some ⟨w3.heap.size, 0, none⟩) X.size (grownCap w3 X.size 0 5), .slice (some ⟨w4.heap.size, 0, none⟩) Y.size (grownCap w4 Y.size 0 5), .int .i64 M]) (by simp [results, Tryd.results83, go_sem]) rfl ?_
  exact ⟨_, _, rfl, (bytesW_rd w3 X).keep_nil (HK4.out.nil (bytesW_keep w4 Y)), bytesW_rd w4 Y, ((HK3.out.nil (bytesW_keep w3 X)).nil HK4.out).nil (bytesW_keep w4 Y)⟩
set_option maxRecDepth 100000 in
set_option maxHeartbeats 2000000 in
theorem compare_eq (w : World) (s t : ByteArray) (sc tc : Nat) (h1 : decB false s (sc : Int) = true) (h2 : decB false t (tc : Int) = true) (hs : s.size ≤ 400) (ht : t.size ≤ 400) (hsc : sc ≤ 400) (htc : tc ≤ 400) (M n : Nat) (hM : M = max sc tc) (hn : n = max (scB s (M - sc)).size (scB t (M - tc)).size)
    (hXY : lnB (scB s (M - sc)) n = lnB (scB t (M - tc)) n) (hsg : signB s = signB t) :
    Calls Tryd.prog 35 #[decV false s (sc : Int), decV false t (tc : Int)] w fun e w' => e = .returned (.tuple #[.int .i64 0, .int .i64 0]) ∧ Keep [] w w' := by
  have HB0 := Lib.hid ((Blk.new w 51 #[.bool false, .string s, .int .i64 (sc : Int)]).alloc (.cells #[.bool false, .string t, .int .i64 (tc : Int)] 51))
  have HC0 := Lib.hid (Blk.new' (w.alloc (.cells #[.bool false, .string s, .int .i64 (sc : Int)] 51)) 51 #[.bool false, .string t, .int .i64 (tc : Int)] (w.heap.size + 1) (by simp))
  have HK0 := Lib.hid (((Keep.refl [] w).alloc (.cells #[.bool false, .string s, .int .i64 (sc : Int)] 51)).alloc (.cells #[.bool false, .string t, .int .i64 (tc : Int)] 51))
  have HBo := fun W => Lib.hid (both_any W s t (sc : Int) (tc : Int) h1 h2 hs ht)
  have HLv : ∀ W, Hid (Calls Tryd.prog 83 #[decV false s (sc : Int), decV false t (tc : Int)] W fun e w' => ∃ v u, e = .returned (.tuple #[v, u, .int .i64 M]) ∧ RdU w' v (lnB (scB s (M - sc)) n) ∧ RdU w' u (lnB (scB t (M - tc)) n) ∧ Keep [] W w') := fun W => level_any W s t sc tc hs ht hsc htc M n hM hn
  have HS1 := fun W => Lib.hid (sign_any W s (sc : Int) h1 hs)
  have HS2 := fun W => Lib.hid (sign_any W t (tc : Int) h2 ht)
  have hXs : (lnB (scB s (M - sc)) n).size ≤ 1000000 := by
    have h3 : (scB s (M - sc)).size ≤ 800 := by unfold scB; rw [ByteArray.size_append, zsB_size]; omega
    have h4 : (scB t (M - tc)).size ≤ 800 := by unfold scB; rw [ByteArray.size_append, zsB_size]; omega
    unfold lnB
    rw [ByteArray.size_append, zsB_size]; omega
  rw [← hXY] at HLv
  rw [← hsg] at HS2
  generalize lnB (scB s (M - sc)) n = X at *
  generalize signB s = g at *
  have HXs := Lib.hid hXs
  unfold decV at *
  clear h1 h2 hM hn hXY hsg hXs hs ht hsc htc
  obtain ⟨d0, d1, d2, df⟩ := DecAt.all HB0.out
  obtain ⟨e0, e1, e2, ef⟩ := DecAt.all HC0.out
  go_enter Tryd.func35, Tryd.ntmps35
  go_upto_region 7 with (first
    | (go_at_call 82; refine (HBo _).out.mono ?_; rintro e w1 ⟨rfl, hk⟩; have HB1 := Lib.hid (HB0.out.keep hk (by simp)); have HC1 := Lib.hid (HC0.out.keep hk (by simp)); have HK1 := Lib.hid (HK0.out.nil hk); obtain ⟨q0, q1, q2, qf⟩ := DecAt.all HB1.out; obtain ⟨r0, r1, r2, rf⟩ := DecAt.all HC1.out; clear hk)
    | (go_at_call 83; refine (HLv _).out.mono ?_; rintro e w2 ⟨v2, u2, rfl, hv, hu, hk⟩; have HV := Lib.hid hv; have HU := Lib.hid hu; have HB2 := Lib.hid (HB1.out.keep hk (by simp)); have HC2 := Lib.hid (HC1.out.keep hk (by simp)); have HK2 := Lib.hid (HK1.out.nil hk); clear hk hv hu)
    | (go_at_call 84; refine (scmp_eq _ _ _ X HV.out HU.out HXs.out).mono ?_; rintro e w3 ⟨rfl, rfl⟩))
  clear d0 d1 d2 df e0 e1 e2 ef q0 q1 q2 qf r0 r1 r2 rf
  obtain ⟨d0, d1, d2, df⟩ := DecAt.all HB2.out
  obtain ⟨e0, e1, e2, ef⟩ := DecAt.all HC2.out
  go_region_held3 (fun W => W.cell? ⟨w.heap.size, 0, none⟩ = some (.bool false) ∧ W.cell? ⟨w.heap.size, 1, none⟩ = some (.string s) ∧ W.cell? ⟨w.heap.size, 2, none⟩ = some (.int .i64 sc) ∧ W.cell? ⟨w.heap.size + 1, 0, none⟩ = some (.bool false) ∧ W.cell? ⟨w.heap.size + 1, 1, none⟩ = some (.string t) ∧ W.cell? ⟨w.heap.size + 1, 2, none⟩ = some (.int .i64 tc)) (first | exact ⟨d0, d1, d2, e0, e1, e2⟩ | exact ⟨q0, q1, q2, r0, r1, r2⟩ | exact ⟨x0, x1, x2, y0, y1, y2⟩) (first
    | (have hz := HK4; clear hz; go_at_call 85; refine (HS2 _).out.mono ?_; rintro e w5 ⟨rfl, hk⟩; have HB5 := Lib.hid (HB4.out.keep hk (by simp)); have HC5 := Lib.hid (HC4.out.keep hk (by simp)); have HK5 := Lib.hid (HK4.out.nil hk); obtain ⟨x0, x1, x2, xf⟩ := DecAt.all HB5.out; obtain ⟨y0, y1, y2, yf⟩ := DecAt.all HC5.out; clear hk)
    | (go_at_call 85; refine (HS1 _).out.mono ?_; rintro e w4 ⟨rfl, hk⟩; have HB4 := Lib.hid ((Blk.drewN HB2.out 1).keep hk (by simp)); have HC4 := Lib.hid ((Blk.drewN HC2.out 1).keep hk (by simp)); have HK4 := Lib.hid ((HK2.out.drewN 1).nil hk); obtain ⟨q0, q1, q2, qf⟩ := DecAt.all HB4.out; obtain ⟨r0, r1, r2, rf⟩ := DecAt.all HC4.out; clear hk))
  go_wp2
  go_ret2
  exact ⟨rfl, HK5.out⟩
end Go.Proofs.YtkkglaglnfebjaaDoor
