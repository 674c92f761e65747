/- Walks: dec.Round (half to even). Walks: dec.Trim, dec.Print (not below 0). Walks: dec.Print (not below 0), strings.Cut at a point. Plain law: decimals that may be; a pattern's digits. -/
import Derived.Test.YtkkglaglnfebjaaDoorWDec
import Derived.Deep.RegionHeld3
namespace Go.Proofs.YtkkglaglnfebjaaDoor
open Go.RowKit Go.IntWalk

/-- A decimal in block g. -/
def DecAt (w : World) (g : Nat) (neg : Bool) (s : ByteArray) (sc : Int) : Prop := Blk w g 51 #[.bool neg, .string s, .int .i64 sc]
theorem DecAt.all {w : World} {g : Nat} {neg : Bool} {s : ByteArray} {sc : Int} (h : DecAt w g neg s sc) : w.cell? ⟨g, 0, none⟩ = some (.bool neg) ∧ w.cell? ⟨g, 1, none⟩ = some (.string s) ∧ w.cell? ⟨g, 2, none⟩ = some (.int .i64 sc) ∧ ∀ i, w.frozen? ⟨g, i, none⟩ = false :=
  ⟨Blk.cell_eq h rfl, Blk.cell_eq h rfl, Blk.cell_eq h rfl, Blk.frozen h⟩
theorem DecAt.keep {w w' : World} {g : Nat} {neg : Bool} {s : ByteArray} {sc : Int} {bs : List Nat} (h : DecAt w g neg s sc) (hk : Keep bs w w') (hg : g ∉ bs) : DecAt w' g neg s sc := Blk.keep h hk hg

theorem bits_odd (x : UInt8) : (bits BinOp.and IntKind.u8 (x.toNat : Int) 1 == 1) = decide (((x.toNat : Int) - 48) % 2 = 1) := by
  have key : ∀ n : Fin 256, (bits BinOp.and IntKind.u8 ((n.val : Nat) : Int) 1 == 1) = decide (((n.val : Int) - 48) % 2 = 1) := by decide +kernel
  exact key ⟨x.toNat, UInt8.toNat_lt x⟩
theorem canon_len (l : List UInt8) : (canon l).length ≤ max 1 l.length := by
  unfold canon
  split
  · show 1 ≤ _; omega
  · have := (List.dropWhile_suffix (fun b : UInt8 => b == 48) (l := l)).length_le
    omega
theorem addT_len : ∀ (l : List Int) (c : Int), (addT l c).length = l.length + 1
  | [], _ => rfl
  | d :: r, c => by
    show (addT r _).length + 1 = r.length + 1 + 1
    rw [addT_len r]
theorem ext_list (s : ByteArray) (a b : Nat) : (s.extract a b).data.toList = (s.data.toList.take b).drop a := by
  rw [ByteArray.data_extract, Array.toList_extract]
  exact List.extract_eq_drop_take' 
set_option maxRecDepth 100000 in
set_option maxHeartbeats 4000000 in
theorem round_any (w : World) (s : ByteArray) (k c : Nat) (hc : 1 ≤ c) (hkc : k + c ≤ 400) (h : decB false s ((k + c : Nat) : Int) = true) (hs1 : 1 ≤ s.size) (hs4 : s.size ≤ 400) (ho : okT s.data.toList) :
    Calls Tryd.prog 32 #[decV false s ((k + c : Nat) : Int), .int .i64 k, .int .i64 1] w fun e w' => e = .returned (.tuple #[decT false (roundP c s.data.toList) k, .int .i64 0]) ∧ Keep [] w w' := by
  have HS := fun W => Lib.hid (scaled_any W false s ((k + c : Nat) : Int) (by omega) h k (by omega) (by omega))
  have HD0 := Lib.hid ((Blk.new w 51 #[.bool false, .string s, .int .i64 ((k + c : Nat) : Int)]).alloc (.cells #[.bool false, .string ⟨#[]⟩, .int .i64 0] 51))
  have HK0 := Lib.hid (((Keep.refl [] w).alloc (.cells #[.bool false, .string s, .int .i64 ((k + c : Nat) : Int)] 51)).alloc (.cells #[.bool false, .string ⟨#[]⟩, .int .i64 0] 51))
  have HN := Lib.hid (Blk.new' (w.alloc (.cells #[.bool false, .string s, .int .i64 ((k + c : Nat) : Int)] 51)) 51 #[.bool false, .string ⟨#[]⟩, .int .i64 0] (w.heap.size + 1) (by simp))
  unfold decT
  unfold decV at *
  obtain ⟨T, hT⟩ : ∃ T : ByteArray, T = ⟨(roundP c s.data.toList).toArray⟩ := ⟨_, rfl⟩
  rw [← hT]
  have HT := Lib.hid hT
  clear h hT
  go_enter Tryd.func32, Tryd.ntmps32
  go_upto_region 4 with (go_at_call 70; refine (HS _).out.mono ?_; rintro e w1 ⟨rfl, hk⟩; have HD1 := Lib.hid (DecAt.keep HD0.out hk (by simp)); have HN1 := Lib.hid (HN.out.keep hk (by simp)); have HK1 := Lib.hid (HK0.out.nil hk); clear hk)
  obtain ⟨d0, d1, d2, df⟩ := HD1.out.all
  rw [Int.natCast_add] at d2
  have hw1 : IntKind.i64.wrap ((k : Int) + c - k) = c := by simp [IntKind.wrap, IntKind.bits, IntKind.signed]; omega
  have hw2 : IntKind.i64.wrap ((c : Int) + 1) = (c : Int) + 1 := by simp [IntKind.wrap, IntKind.bits, IntKind.signed]; omega
  have hw3 : IntKind.i64.wrap ((c : Int) + 1 - s.size) = (c : Int) + 1 - s.size := by simp [IntKind.wrap, IntKind.bits, IntKind.signed]; omega
  have HR := fun W => Lib.hid (rep48 (c + 1 - s.size) (by omega) W (max 0 ((c : Int) + 1 - s.size)) (by omega))
  have HZ : (⟨Array.replicate (c + 1 - s.size) 48⟩ : ByteArray).size = c + 1 - s.size := by show (Array.replicate (c + 1 - s.size) (48 : UInt8)).size = _; rw [Array.size_replicate]
  have HA : ∀ W, (Op.stringOp .add ⟨Array.replicate (c + 1 - s.size) 48⟩ s).run Tryd.prog W = .ok (.string ((⟨Array.replicate (c + 1 - s.size) 48⟩ : ByteArray) ++ s)) W := fun W => run_string_add_sum W _ _ (by rw [HZ]; omega)
  go_upto_region 9 with fail
  go_region_held3 (fun W => W.cell? ⟨w.heap.size, 0, none⟩ = some (.bool false) ∧ W.cell? ⟨w.heap.size, 1, none⟩ = some (.string s) ∧ W.cell? ⟨w.heap.size, 2, none⟩ = some (.int .i64 ((k : Int) + c))) (first | exact ⟨d0, d1, d2⟩ | exact ⟨e0, e1, e2⟩) (first | (go_at_call 48; refine (HR _).out.mono ?_; rintro e w2 ⟨rfl, hk⟩; have HD2 := Lib.hid (DecAt.keep (HD1.out.drewN 1) hk (by simp)); have HN2 := Lib.hid ((HN1.out.drewN 1).keep hk (by simp)); have HK2 := Lib.hid ((HK1.out.drewN 1).nil hk); obtain ⟨e0, e1, e2, ef⟩ := HD2.out.all; rw [Int.natCast_add] at e2; clear hk))
  obtain ⟨P, hP⟩ : ∃ P, ((⟨Array.replicate (c + 1 - s.size) 48⟩ : ByteArray) ++ s) = P := ⟨_, rfl⟩
  rw [hP] at HA ⊢
  obtain ⟨m, hm⟩ : ∃ m, P.size = m + 1 + c := ⟨P.size - 1 - c, by rw [← hP, ByteArray.size_append, HZ]; omega⟩
  have hm2 : m + 1 + c = c + 1 - s.size + s.size := by rw [← hm, ← hP, ByteArray.size_append, HZ]
  have HPl : Hid (P.data.toList = padT c s.data.toList) := by
    unfold Hid padT
    rw [← hP, txt_cat, Array.toList_replicate, txt_len]
  have hm4 : m + 1 ≤ 399 := by omega
  clear hP HA HR hw1 hw2 hw3 HZ d0 d1 d2 df HD1 HN1 HK1 hm2
  have hw1 : IntKind.i64.wrap ((m : Int) + 1 + c - c) = m + 1 := by simp [IntKind.wrap, IntKind.bits, IntKind.signed]; omega
  go_upto_region 10 with fail
  go_quiet (fail)
  have HK3 := Lib.hid (HK2.out.drewN nq)
  have HD3 := Lib.hid (Blk.drewN HD2.out nq)
  have HN3 := Lib.hid (Blk.drewN HN2.out nq)
  generalize w2.drewN nq = w3 at *
  clear e0 e1 e2 ef HD2 HN2 HK2
  obtain ⟨d0, d1, d2, df⟩ := DecAt.all HD3.out
  rw [Int.natCast_add] at d2
  have hPd : P.data.toList.length = m + 1 + c := by rw [txt_len, hm]
  have hpl : (padT c s.data.toList).length = m + 1 + c := by rw [← HPl.out, hPd]
  obtain ⟨K, hK⟩ : ∃ K, P.extract 0 (m + 1) = K := ⟨_, rfl⟩
  obtain ⟨R, hR⟩ : ∃ R, P.extract (m + 1) (m + 1 + c) = R := ⟨_, rfl⟩
  have HKl : Hid (K.data.toList = keptT c s.data.toList) := by
    unfold Hid keptT
    rw [hpl, ← hK, ← HPl.out, ext_list, show m + 1 + c - c = m + 1 by omega]
    simp
  have HRl : Hid (R.data.toList = restT c s.data.toList) := by
    unfold Hid restT
    rw [hpl, ← hR, ← HPl.out, ext_list, show m + 1 + c - c = m + 1 by omega, List.take_of_length_le (by rw [hPd]; omega)]
  have hKs : K.size = m + 1 := by rw [← hK, ByteArray.size_extract, hm]; omega
  have hRs : R.size = c := by rw [← hR, ByteArray.size_extract, hm]; omega
  rw [hK, hR]
  have HOk : Hid (okT K.data.toList) := fun b hb => by
    rw [HKl.out] at hb
    have hb := List.mem_of_mem_take hb
    unfold padT at hb
    rcases List.mem_append.1 hb with hb | hb
    · obtain rfl := List.eq_of_mem_replicate hb
      unfold isD; decide
    · exact ho b hb
  have hlt : m < K.size := by omega
  have hodd : (bits BinOp.and IntKind.u8 (K[m].toNat : Int) 1 == 1) = oddT K.data.toList := by
    have hr := row_byte K m hlt
    rw [hKs, show m + 1 - 1 - m = 0 by omega] at hr
    unfold oddT
    rw [hr, bits_odd]
  have HU := fun W => Lib.hid (up_any W false (oddT K.data.toList) R (by omega) (by omega))
  rw [HRl.out, HKl.out] at HU
  rw [HKl.out] at hodd
  change ∀ W, Hid (Calls _ _ _ _ fun e w' => e = .returned (.bool (upP (oddT (keptT c s.data.toList)) (restT c s.data.toList))) ∧ Keep [] W w') at HU
  have HG : Hid (canon (if upP (oddT (keptT c s.data.toList)) (restT c s.data.toList) then plus1 K.data.toList else K.data.toList) = roundP c s.data.toList) := by
    unfold Hid roundP
    rw [HKl.out]
  generalize oddT (keptT c s.data.toList) = od at *
  generalize upP od (restT c s.data.toList) = ub at *
  have HKs := Lib.hid hKs
  have hw2 : IntKind.i64.wrap ((K.size : Int) - 1) = m := by rw [hKs]; simp [IntKind.wrap, IntKind.bits, IntKind.signed]; omega
  clear hK hR HRl HKl hPd hpl HPl hm hRs hKs
  go_upto_region 11 with fail
  go_region_held3 (fun W => W.cell? ⟨w.heap.size, 0, none⟩ = some (.bool false)) (first | exact d0 | exact e0) (first | (go_at_call 71; refine (HU _).out.mono ?_; rintro e w4 ⟨rfl, hk⟩; have HD4 := Lib.hid (DecAt.keep (Blk.drewN HD3.out 1) hk (by simp)); have HN4 := Lib.hid ((HN3.out.drewN 1).keep hk (by simp)); have HK4 := Lib.hid ((HK3.out.drewN 1).nil hk); obtain ⟨e0, e1, e2, ef⟩ := HD4.out.all; clear hk))
  clear HD3 HN3 HK3 HU hodd d0 d1 d2 df hw1 hw2 HS HD0 HK0 HN
  cases ub
  · have HM : ∀ W, Hid (Calls Tryd.prog 73 #[.bool false, .string K, .int .i64 k] W fun e w' => e = .returned (.tuple #[.agg #[.bool false, .string T, .int .i64 k], .int .i64 0]) ∧ Keep [] W w') := fun W => by
      have h0 := HKs.out
      have := made_any W K k (by have h1 := canon_len K.data.toList; rw [txt_len] at h1; omega) (by omega)
      rw [show canon K.data.toList = roundP c s.data.toList from HG.out] at this
      unfold decT decV at this
      rw [HT.out]
      exact this
    clear HG
    go_wp2_with (first | (go_at_call 73; refine (HM _).out.mono ?_; rintro e w5 ⟨rfl, hk⟩; have HN5 := Lib.hid (HN4.out.keep hk (by simp)); have HK5 := Lib.hid (HK4.out.nil hk); obtain ⟨n0, n1, n2, nf⟩ := DecAt.all HN5.out; clear hk))
    refine bodyPost_ret (v := .tuple #[.agg #[.bool false, .string T, .int .i64 k], .int .i64 0]) (by simp [results, Tryd.results32, go_sem, n0, n1, n2]) rfl ⟨rfl, ?_⟩
    repeat (refine Keep.setCell ?_ (.inr (Nat.le_succ _)) _)
    exact HK5.out
  · obtain ⟨One, hOne⟩ : ∃ One : ByteArray, (⟨Array.replicate m 48⟩ : ByteArray) ++ ⟨#[49]⟩ = One := ⟨_, rfl⟩
    have h0 := HKs.out
    have hOl : One.data.toList = List.replicate m 48 ++ [49] := by rw [← hOne, txt_cat, Array.toList_replicate]
    have hOs : One.size = K.size := by rw [← txt_len, hOl, List.length_append, List.length_replicate, h0]; rfl
    have hOk : okT One.data.toList := fun b hb => by
      rw [hOl] at hb
      rcases List.mem_append.1 hb with hb | hb
      · obtain rfl := List.eq_of_mem_replicate hb
        unfold isD; decide
      · obtain rfl : b = 49 := by simpa using hb
        unfold isD; decide
    have hpB : (plusB K One).data.toList = plus1 K.data.toList := by
      unfold plusB plus1
      have e1 : rowOf One.data.toList = 1 :: List.replicate ((rowOf K.data.toList).length - 1) 0 := by
        rw [hOl, rowOf_len, txt_len, h0]
        unfold rowOf
        rw [List.reverse_append, List.reverse_replicate, List.map_append, List.map_replicate]; rfl
      rw [e1, sumR_one _ (by intro e; have := congrArg List.length e; rw [rowOf_len, txt_len, h0] at this; simp at this)]
    have hpl : (plus1 K.data.toList).length = m + 2 := by
      unfold plus1
      rw [List.length_map, List.length_reverse, addT_len, rowOf_len, txt_len, h0]
    have HR1 := fun W => Lib.hid (rep48 m (by omega) W (m : Int) rfl)
    have HA1 : ∀ W, (Op.stringOp .add ⟨Array.replicate m 48⟩ ⟨#[49]⟩).run Tryd.prog W = .ok (.string One) W := fun W => by
      rw [← hOne]
      exact run_string_add_sum W _ _ (by show (Array.replicate m (48 : UInt8)).size + 1 ≤ _; rw [Array.size_replicate]; omega)
    have HPl : ∀ (W : World) (g1 g2 c1 c2 : Nat), RdU W (.slice (some ⟨g1, 0, none⟩) K.size c1) K → RdU W (.slice (some ⟨g2, 0, none⟩) One.size c2) One → Hid (Calls Tryd.prog 72 #[.slice (some ⟨g1, 0, none⟩) K.size c1, .slice (some ⟨g2, 0, none⟩) One.size c2] W fun e w' => e = .returned (.string (plusB K One)) ∧ Keep [] W w') := fun W g1 g2 c1 c2 hx hy =>
      plus_any W g1 g2 c1 c2 K One hOs (by omega) (by omega) HOk.out hOk hx hy
    have HM : ∀ W, Hid (Calls Tryd.prog 73 #[.bool false, .string (plusB K One), .int .i64 k] W fun e w' => e = .returned (.tuple #[.agg #[.bool false, .string T, .int .i64 k], .int .i64 0]) ∧ Keep [] W w') := fun W => by
      have := made_any W (plusB K One) k (by have h1 := canon_len (plusB K One).data.toList; rw [hpB, hpl] at h1; rw [hpB]; omega) (by omega)
      rw [hpB, show canon (plus1 K.data.toList) = roundP c s.data.toList from HG.out] at this
      unfold decT decV at this
      rw [HT.out]
      exact this
    have cv1 := fun W => run_bytes W One
    have cv2 := fun W => run_bytes W K
    have hw2 : IntKind.i64.wrap ((K.size : Int) - 1) = m := by rw [h0]; simp [IntKind.wrap, IntKind.bits, IntKind.signed]; omega
    clear HG hOne hOl hOk hpB hpl h0 hOs
    generalize plusB K One = PB at *
    go_upto_region 13 with (first | (go_at_call 48; refine (HR1 _).out.mono ?_; rintro e w5 ⟨rfl, hk⟩; have HD5 := Lib.hid (HD4.out.keep hk (by simp)); have HN5 := Lib.hid (HN4.out.keep hk (by simp)); have HK5 := Lib.hid (HK4.out.nil hk); clear hk))
    have HKx : Hid (Keep [] w5 (bytesW (bytesW w5 One) K)) := (bytesW_keep w5 One).nil (bytesW_keep _ K)
    have HX : Hid (RdU (bytesW (bytesW w5 One) K) _ K) := bytesW_rd (bytesW w5 One) K
    have HY : Hid (RdU (bytesW (bytesW w5 One) K) _ One) := (bytesW_rd w5 One).keep_nil (bytesW_keep _ K)
    clear e0 e1 e2 ef HD4 HN4 HK4
    go_upto_region 14 with (first | (go_at_call 72; refine (HPl _ _ _ _ _ HX.out HY.out).out.mono ?_; rintro e w7 ⟨rfl, hk⟩; have HD7 := Lib.hid ((HD5.out.keep HKx.out (by simp)).keep hk (by simp)); have HN7 := Lib.hid ((HN5.out.keep HKx.out (by simp)).keep hk (by simp)); have HK7 := Lib.hid ((HK5.out.nil HKx.out).nil hk); clear hk))
    obtain ⟨e0, e1, e2, ef⟩ := DecAt.all HD7.out
    go_wp2_with (first | (go_at_call 73; refine (HM _).out.mono ?_; rintro e w8 ⟨rfl, hk⟩; have HN8 := Lib.hid (HN7.out.keep hk (by simp)); have HK8 := Lib.hid (HK7.out.nil hk); obtain ⟨n0, n1, n2, nf⟩ := DecAt.all HN8.out; clear hk))
    refine bodyPost_ret (v := .tuple #[.agg #[.bool false, .string T, .int .i64 k], .int .i64 0]) (by simp [results, Tryd.results32, go_sem, n0, n1, n2]) rfl ⟨rfl, ?_⟩
    repeat (refine Keep.setCell ?_ (.inr (Nat.le_succ _)) _)
    exact HK8.out
end Go.Proofs.YtkkglaglnfebjaaDoor

namespace Go.Proofs.YtkkglaglnfebjaaDoor
open Go.RowKit Go.IntWalk

theorem last_byte (t : ByteArray) (q : Nat) (h : t.size = q + 1) (hq : q < t.size) : t.data.toList.getLast? = some t[q] := by
  have hl : t.data.toList.length = q + 1 := by rw [txt_len, h]
  rw [List.getLast?_eq_getElem?, hl, List.getElem?_eq_getElem (by omega)]
  rfl
theorem drop_last (t : ByteArray) (q : Nat) (h : t.size = q + 1) : (t.extract 0 q).data.toList = t.data.toList.dropLast := by
  rw [ext_list, List.dropLast_eq_take, txt_len, h]; simp
/-- Where the loop stands. -/
structure TrI (w : World) (l : List UInt8) (sc least : Nat) (k : Nat) (t : ByteArray) (wx : World) : Prop where
  d : DecAt wx w.heap.size false t k
  n : Blk wx (w.heap.size + 1) 51 #[.bool false, .string ⟨#[]⟩, .int .i64 0]
  kp : Keep [] w wx
  s1 : 1 ≤ t.size
  s4 : t.size ≤ 400
  le : k ≤ 400
  eq : trimL k t.data.toList least = trimL sc l least

set_option maxRecDepth 100000 in
set_option maxHeartbeats 4000000 in
theorem trim_any (w : World) (s : ByteArray) (sc least : Nat) (hsc : sc ≤ 400) (hle : least ≤ 400) (h : decB false s (sc : Int) = true) (hs1 : 1 ≤ s.size) (hs4 : s.size ≤ 400) :
    Calls Tryd.prog 63 #[decV false s (sc : Int), .int .i64 least] w fun e w' => e = .returned (.tuple #[decT false (trimL sc s.data.toList least).1 (trimL sc s.data.toList least).2, .int .i64 0]) ∧ Keep [] w w' := by
  have HS := fun W => Lib.hid (scaled_any W false s (sc : Int) (by omega) h least (by omega) (by omega))
  have HD0 := Lib.hid ((Blk.new w 51 #[.bool false, .string s, .int .i64 (sc : Int)]).alloc (.cells #[.bool false, .string ⟨#[]⟩, .int .i64 0] 51))
  have HK0 := Lib.hid (((Keep.refl [] w).alloc (.cells #[.bool false, .string s, .int .i64 (sc : Int)] 51)).alloc (.cells #[.bool false, .string ⟨#[]⟩, .int .i64 0] 51))
  have HN := Lib.hid (Blk.new' (w.alloc (.cells #[.bool false, .string s, .int .i64 (sc : Int)] 51)) 51 #[.bool false, .string ⟨#[]⟩, .int .i64 0] (w.heap.size + 1) (by simp))
  unfold decT
  unfold decV at *
  obtain ⟨T, hT⟩ : ∃ T : ByteArray, T = ⟨(trimL sc s.data.toList least).1.toArray⟩ := ⟨_, rfl⟩
  obtain ⟨E, hE⟩ : ∃ E : Nat, E = (trimL sc s.data.toList least).2 := ⟨_, rfl⟩
  rw [← hT, ← hE]
  have HT := Lib.hid hT
  have HE := Lib.hid hE
  clear h hT hE
  go_enter Tryd.func63, Tryd.ntmps63
  go_wp2_with (go_at_call 70; refine (HS _).out.mono ?_; rintro e w1 ⟨rfl, hk⟩; have HI := Lib.hid (TrI.mk (l := s.data.toList) (sc := sc) (least := least) (DecAt.keep HD0.out hk (by simp)) (HN.out.keep hk (by simp)) (HK0.out.nil hk) hs1 hs4 hsc rfl); clear hk)
  clear HD0 HK0 HN HS
  go_loopg [] sc (fun k wx => ∃ t, TrI w s.data.toList sc least k t wx)
  case atStart => exact ⟨s, HI.out⟩
  case round =>
    obtain ⟨t, hI⟩ := hrel
    obtain ⟨q, hq⟩ : ∃ q, t.size = q + 1 := ⟨t.size - 1, by have := hI.s1; omega⟩
    have hql : q < t.size := by omega
    have hw1 : IntKind.i64.wrap ((t.size : Int) - 1) = q := by have := hI.s4; rw [hq]; simp [IntKind.wrap, IntKind.bits, IntKind.signed]; omega
    have hlb := last_byte t q hq hql
    have hdl := drop_last t q hq
    obtain ⟨d0, d1, d2, df⟩ := DecAt.all hI.d
    obtain ⟨n0, n1, n2, nf⟩ := DecAt.all hI.n
    have HQ := Lib.hid hq
    have HI1 := Lib.hid hI
    have hgk := hI.le
    clear hI HI
    by_cases c1 : least < gk
    · obtain ⟨k, rfl⟩ : ∃ k, gk = k + 1 := ⟨gk - 1, by omega⟩
      have hw2 : IntKind.i64.wrap ((k : Int) + 1 - 1) = k := by simp [IntKind.wrap, IntKind.bits, IntKind.signed]; omega
      rw [Int.natCast_add] at d2
      change wr.cell? ⟨w.heap.size, 2, none⟩ = some (.int .i64 ((k : Int) + 1)) at d2
      have c1' : (least : Int) < (k : Int) + 1 := by omega
      by_cases c2 : (t[q].toNat : Int) = 48
      · have hb : t[q] = 48 := by
          apply UInt8.toNat_inj.1
          show t[q].toNat = 48
          omega
        have hst : trimL (k + 1) t.data.toList least = trimL k (if 1 < t.data.toList.length then t.data.toList.dropLast else t.data.toList) least := by
          rw [trimL, if_pos ⟨c1, by rw [hlb, hb]⟩]
        rw [txt_len] at hst
        have HST := Lib.hid hst
        have HDL := Lib.hid hdl
        clear hst hdl hlb hb hq
        by_cases c3 : (1 : Int) < t.size
        · have HN1 : Hid (TrI w s.data.toList sc least k (t.extract 0 q) ((wr.setCell ⟨w.heap.size, 2, none⟩ (.int .i64 k)).setCell ⟨w.heap.size, 1, none⟩ (.string (t.extract 0 q)))) := by
            have hI := HI1.out
            have hq := HQ.out
            have h4 := hI.s4
            refine ⟨Blk.set_ (Blk.set_ hI.d 2 (.int .i64 k)) 1 (.string (t.extract 0 q)), (hI.n.far (by simp) _).far (by simp) _, (hI.kp.setCell (.inr (Nat.le_refl _)) _).setCell (.inr (Nat.le_refl _)) _, ?_, ?_, by omega, ?_⟩
            · rw [ByteArray.size_extract]; omega
            · rw [ByteArray.size_extract]; omega
            · rw [HDL.out, ← hI.eq, HST.out, if_pos (by omega)]
          go_wp2
          go_roundg k
          case measure => omega
          case rel => exact ⟨_, HN1.out⟩
        · have HN1 : Hid (TrI w s.data.toList sc least k t (wr.setCell ⟨w.heap.size, 2, none⟩ (.int .i64 k))) := by
            have hI := HI1.out
            refine ⟨Blk.set_ hI.d 2 (.int .i64 k), hI.n.far (by simp) _, hI.kp.setCell (.inr (Nat.le_refl _)) _, hI.s1, hI.s4, by omega, ?_⟩
            rw [← hI.eq, HST.out, if_neg (by omega)]
          go_wp2
          go_roundg k
          case measure => omega
          case rel => exact ⟨_, HN1.out⟩
      · have he : trimL (k + 1) t.data.toList least = (t.data.toList, k + 1) := by
          rw [trimL, if_neg (by rw [hlb]; rintro ⟨_, h⟩; apply c2; rw [Option.some.inj h]; rfl)]
        have he2 := HI1.out.eq
        rw [he] at he2
        obtain rfl : T = t := by rw [HT.out, ← he2]
        obtain rfl : E = k + 1 := by rw [HE.out, ← he2]
        have HK := Lib.hid HI1.out.kp
        clear he he2 HT HE HI1 hlb hdl hq
        go_wp2
        refine bodyPost_ret (v := .tuple #[.agg #[.bool false, .string T, .int .i64 ((k + 1 : Nat) : Int)], .int .i64 0]) (by simp [results, Tryd.results63, go_sem, n0, n1, n2]) rfl ⟨rfl, ?_⟩
        repeat (refine Keep.setCell ?_ (.inr (Nat.le_succ _)) _)
        exact HK.out
    · have he : trimL gk t.data.toList least = (t.data.toList, gk) := by
        cases gk with
        | zero => rfl
        | succ k => rw [trimL, if_neg (by rintro ⟨h, _⟩; exact c1 h)]
      have he2 := HI1.out.eq
      rw [he] at he2
      obtain rfl : T = t := by rw [HT.out, ← he2]
      obtain rfl : E = gk := by rw [HE.out, ← he2]
      have HK := Lib.hid HI1.out.kp
      clear he he2 HT HE HI1 hlb hdl hq
      go_wp2
      refine bodyPost_ret (v := .tuple #[.agg #[.bool false, .string T, .int .i64 (E : Int)], .int .i64 0]) (by simp [results, Tryd.results63, go_sem, n0, n1, n2]) rfl ⟨rfl, ?_⟩
      repeat (refine Keep.setCell ?_ (.inr (Nat.le_succ _)) _)
      exact HK.out
end Go.Proofs.YtkkglaglnfebjaaDoor

namespace Go.Proofs.YtkkglaglnfebjaaDoor
open Go.RowKit Go.IntWalk

set_option maxRecDepth 100000 in
set_option maxHeartbeats 4000000 in
theorem dprint_any (w : World) (s : ByteArray) (sc : Nat) (hsc : sc ≤ 400) (h : decB false s (sc : Int) = true) (hs1 : 1 ≤ s.size) (hs4 : s.size ≤ 400) :
    Calls Tryd.prog 64 #[decV false s (sc : Int)] w fun e w' => e = .returned (.tuple #[.string ⟨(textD s.data.toList sc).toArray⟩, .int .i64 0]) ∧ Keep [] w w' := by
  have HC := fun W => Lib.hid (dcheck_any W false s (sc : Int) (by omega))
  rw [h] at HC
  change ∀ W, Hid (Calls _ _ _ _ fun e w' => e = .returned (.int .i64 0) ∧ Keep [] W w') at HC
  have HD0 := Lib.hid (Blk.new w 51 #[.bool false, .string s, .int .i64 (sc : Int)])
  have HK0 := Lib.hid ((Keep.refl [] w).alloc (.cells #[.bool false, .string s, .int .i64 (sc : Int)] 51))
  unfold decV at *
  obtain ⟨T, hT⟩ : ∃ T : ByteArray, T = ⟨(textD s.data.toList sc).toArray⟩ := ⟨_, rfl⟩
  rw [← hT]
  have HT := Lib.hid hT
  clear h hT
  go_enter Tryd.func64, Tryd.ntmps64
  go_upto_region 5 with (go_at_call 62; refine (HC _).out.mono ?_; rintro e w1 ⟨rfl, hk⟩; have HD1 := Lib.hid (DecAt.keep HD0.out hk (by simp)); have HK1 := Lib.hid (HK0.out.nil hk); clear hk; obtain ⟨d0, d1, d2, df⟩ := HD1.out.all)
  clear HD0 HK0 HC
  by_cases c0 : (0 : Int) < sc
  · have hw1 : IntKind.i64.wrap ((sc : Int) + 1) = (sc : Int) + 1 := by simp [IntKind.wrap, IntKind.bits, IntKind.signed]; omega
    have hw2 : IntKind.i64.wrap ((sc : Int) + 1 - s.size) = (sc : Int) + 1 - s.size := by simp [IntKind.wrap, IntKind.bits, IntKind.signed]; omega
    obtain ⟨P, hP⟩ : ∃ P, ((⟨Array.replicate (sc + 1 - s.size) 48⟩ : ByteArray) ++ s) = P := ⟨_, rfl⟩
    have HZ : (⟨Array.replicate (sc + 1 - s.size) 48⟩ : ByteArray).size = sc + 1 - s.size := by show (Array.replicate (sc + 1 - s.size) (48 : UInt8)).size = _; rw [Array.size_replicate]
    have HA : ∀ W, (Op.stringOp .add ⟨Array.replicate (sc + 1 - s.size) 48⟩ s).run Tryd.prog W = .ok (.string P) W := fun W => by
      rw [← hP]
      exact run_string_add_sum W _ _ (by rw [HZ]; omega)
    obtain ⟨m, hm⟩ : ∃ m, P.size = m + 1 + sc := ⟨P.size - 1 - sc, by rw [← hP, ByteArray.size_append, HZ]; omega⟩
    have hm4 : m + 1 ≤ 400 := by have := congrArg ByteArray.size hP; rw [ByteArray.size_append, HZ, hm] at this; omega
    have HPl : Hid (P.data.toList = padT sc s.data.toList) := by
      unfold Hid padT
      rw [← hP, txt_cat, Array.toList_replicate, txt_len]
    have HPs : Hid (¬ (0 : Int) < (sc : Int) + 1 - s.size → s = P) := fun hx => by
      rw [← hP, show sc + 1 - s.size = 0 by omega]
      apply ByteArray.ext
      simp
    clear HZ
    go_upto_if 24 with fail
    go_cut [5, 24] (fun s5 _ wx => s5 = .string P ∧ DecAt wx w.heap.size false s sc ∧ Keep [] w wx)
    case first =>
      by_cases c1 : (0 : Int) < (sc : Int) + 1 - s.size
      · have HR := fun W => Lib.hid (rep48 (sc + 1 - s.size) (by omega) W ((sc : Int) + 1 - s.size) (by omega))
        go_wp2_with (go_at_call 48; refine (HR _).out.mono ?_; rintro e w2 ⟨rfl, hk⟩; have HD2 := Lib.hid (DecAt.keep HD1.out hk (by simp)); have HK2 := Lib.hid (HK1.out.nil hk); clear hk)
        go_meet
        exact ⟨rfl, HD2.out, HK2.out⟩
      · have HSP := Lib.hid (HPs.out c1)
        go_wp2
        go_meet
        exact ⟨congrArg Value.string HSP.out, HD1.out, HK1.out⟩
    case rest =>
      obtain ⟨rfl, hD, hK⟩ := hcut
      clear HA hw1 hw2 hP HPs d0 d1 d2 df HD1 HK1
      have hw1 : IntKind.i64.wrap ((m : Int) + 1 + sc - sc) = (m : Int) + 1 := by simp [IntKind.wrap, IntKind.bits, IntKind.signed]; omega
      obtain ⟨d0, d1, d2, df⟩ := DecAt.all hD
      have HK2 := Lib.hid hK
      have hPd : P.data.toList.length = m + 1 + sc := by rw [txt_len, hm]
      have hpl : (padT sc s.data.toList).length = m + 1 + sc := by rw [← HPl.out, hPd]
      obtain ⟨K, hK1⟩ : ∃ K, P.extract 0 (m + 1) = K := ⟨_, rfl⟩
      obtain ⟨R, hR⟩ : ∃ R, P.extract (m + 1) (m + 1 + sc) = R := ⟨_, rfl⟩
      have hTe : T = K ++ ⟨#[46]⟩ ++ R := by
        rw [HT.out]
        apply ByteArray.ext
        apply Array.toList_inj.1
        show textD s.data.toList sc = _
        rw [txt_cat, txt_cat, ← hK1, ← hR, ext_list, ext_list]
        unfold textD keptT restT
        rw [if_pos (by omega), hpl, ← HPl.out, show m + 1 + sc - sc = m + 1 by omega, List.take_of_length_le (show P.data.toList.length ≤ m + 1 + sc by omega)]
        simp
      have hKs : K.size ≤ 1000 := by rw [← hK1, ByteArray.size_extract]; omega
      have hRs : R.size ≤ 1000 := by rw [← hR, ByteArray.size_extract]; omega
      have hA1 : ∀ W, (Op.stringOp .add K ⟨#[46]⟩).run Tryd.prog W = .ok (.string (K ++ ⟨#[46]⟩)) W := fun W => run_string_add_sum W _ _ (by show K.size + 1 ≤ _; omega)
      have hA2 : ∀ W, (Op.stringOp .add (K ++ ⟨#[46]⟩) R).run Tryd.prog W = .ok (.string T) W := fun W => by
        rw [hTe]
        exact run_string_add_sum W _ _ (by rw [ByteArray.size_append]; show K.size + 1 + R.size ≤ _; omega)
      have HT2 := Lib.hid hTe
      clear hD hK HPl hPd hpl hTe hKs hRs HT
      go_upto_region 9 with fail
      go_quiet (fail)
      go_wp2
      go_ret2
      exact ⟨rfl, HK2.out.drewN nq⟩
  · have HTs : Hid (T = s) := by
      unfold Hid
      rw [HT.out]
      unfold textD
      rw [if_neg (by omega)]
    clear HT
    go_wp2
    go_ret2
    exact ⟨by rw [HTs.out]; rfl, HK1.out⟩

/-- strings.Cut at a point that stands after n letters; where none stands. -/
theorem idx_yes : ∀ (a b : List UInt8), (46 : UInt8) ∉ a → Lib.indexByte (a ++ 46 :: b) 46 = a.length
  | [], b, _ => rfl
  | x :: a, b, h => by
    have hx : (x == 46) = false := by
      apply Bool.eq_false_iff.2
      intro hx
      exact h (by rw [eq_of_beq hx]; exact List.mem_cons_self)
    have ih := idx_yes a b (fun hm => h (List.mem_cons_of_mem _ hm))
    show (if x == 46 then 0 else if Lib.indexByte (a ++ 46 :: b) 46 == -1 then -1 else Lib.indexByte (a ++ 46 :: b) 46 + 1) = _
    rw [hx, ih, if_neg (by decide), if_neg (by simp only [beq_iff_eq]; omega)]
    simp
theorem idx_no : ∀ (a : List UInt8), (46 : UInt8) ∉ a → Lib.indexByte a 46 = -1
  | [], _ => rfl
  | x :: a, h => by
    have hx : (x == 46) = false := by
      apply Bool.eq_false_iff.2
      intro hx
      exact h (by rw [eq_of_beq hx]; exact List.mem_cons_self)
    have ih := idx_no a (fun hm => h (List.mem_cons_of_mem _ hm))
    show (if x == 46 then 0 else if Lib.indexByte a 46 == -1 then -1 else Lib.indexByte a 46 + 1) = _
    rw [hx, ih, if_neg (by decide), if_pos (by decide)]
set_option maxRecDepth 100000 in
set_option maxHeartbeats 1000000 in
theorem lcut_yes (w : World) (s : ByteArray) (n : Nat) (hs : s.size ≤ 1000000) (hi : Lib.indexByte s.data.toList 46 = n) (hn : n < s.size) :
    Calls Tryd.prog 101 #[.string s, .string ⟨#[46]⟩] w fun e w' => e = .returned (.tuple #[.string (s.extract 0 n), .string (s.extract (n + 1) s.size), .bool true]) ∧ Keep [] w w' := by
  have HI : ∀ W, Hid (Calls Tryd.prog 124 #[.string s, .string ⟨#[46]⟩] W fun e w' => e = .returned (.int .i64 n) ∧ W = w') := fun W => by
    have := Tryd.stringslite_Index_one s 46 W
    rw [hi] at this
    exact this.mono fun e w' ⟨h1, h2⟩ => ⟨h1, h2.symm⟩
  have hw : IntKind.i64.wrap ((n : Int) + 1) = (n : Int) + 1 := by simp [IntKind.wrap, IntKind.bits, IntKind.signed]; omega
  clear hi
  go_enter Tryd.func101, Tryd.ntmps101
  go_upto_region 3 with (go_at_call 124; refine (HI _).out.mono ?_; rintro e w1 ⟨rfl, rfl⟩)
  go_quiet (fail)
  go_wp2
  exact bodyPost_ret (v := .tuple #[.string (s.extract 0 n), .string (s.extract (n + 1) s.size), .bool true]) (by simp [results, Tryd.results101, go_sem]) rfl ⟨rfl, (Keep.refl _ _).drewN nq⟩
set_option maxRecDepth 100000 in
set_option maxHeartbeats 1000000 in
theorem lcut_no (w : World) (s : ByteArray) (hi : Lib.indexByte s.data.toList 46 = -1) :
    Calls Tryd.prog 101 #[.string s, .string ⟨#[46]⟩] w fun e w' => e = .returned (.tuple #[.string s, .string ⟨#[]⟩, .bool false]) ∧ Keep [] w w' := by
  have HI : ∀ W, Hid (Calls Tryd.prog 124 #[.string s, .string ⟨#[46]⟩] W fun e w' => e = .returned (.int .i64 (-1)) ∧ W = w') := fun W => by
    have := Tryd.stringslite_Index_one s 46 W
    rw [hi] at this
    exact this.mono fun e w' ⟨h1, h2⟩ => ⟨h1, h2.symm⟩
  clear hi
  go_enter Tryd.func101, Tryd.ntmps101
  go_wp2_with (go_at_call 124; refine (HI _).out.mono ?_; rintro e w1 ⟨rfl, rfl⟩)
  exact bodyPost_ret (v := .tuple #[.string s, .string ⟨#[]⟩, .bool false]) (by simp [results, Tryd.results101, go_sem]) rfl ⟨rfl, Keep.refl _ _⟩

/-- What Cut answers for a decimal's text. -/
theorem txt_ext (a b : ByteArray) (h : a.data.toList = b.data.toList) : a = b := ByteArray.ext (Array.toList_inj.1 h)
set_option maxRecDepth 100000 in
set_option maxHeartbeats 1000000 in
theorem cut_text (w : World) (l : List UInt8) (sc : Nat) (ho : okT l) (hl : l ≠ []) (hs : (textD l sc).length ≤ 1000000) :
    Calls Tryd.prog 65 #[.string ⟨(textD l sc).toArray⟩, .string ⟨#[46]⟩] w fun e w' => e = .returned (.tuple #[.string ⟨(keptT sc l).toArray⟩, .string ⟨(restT sc l).toArray⟩, .bool (decide (0 < sc))]) ∧ Keep [] w w' := by
  have hok : ∀ b ∈ padT sc l, b ≠ 46 := fun b hb => by
    unfold padT at hb
    rcases List.mem_append.1 hb with hb | hb
    · obtain rfl := List.eq_of_mem_replicate hb
      decide
    · rintro rfl
      have := ho 46 hb
      unfold isD at this
      revert this; decide
  have HL : ∀ W, Hid (Calls Tryd.prog 101 #[.string ⟨(textD l sc).toArray⟩, .string ⟨#[46]⟩] W fun e w' => e = .returned (.tuple #[.string ⟨(keptT sc l).toArray⟩, .string ⟨(restT sc l).toArray⟩, .bool (decide (0 < sc))]) ∧ Keep [] W w') := fun W => by
    by_cases h0 : 0 < sc
    · have e : textD l sc = keptT sc l ++ 46 :: restT sc l := by unfold textD; rw [if_pos h0]
      have hi : Lib.indexByte (textD l sc) 46 = (keptT sc l).length := by
        rw [e]
        exact idx_yes _ _ (fun hm => hok 46 (List.mem_of_mem_take hm) rfl)
      have hlen : (textD l sc).length = (keptT sc l).length + 1 + (restT sc l).length := by rw [e, List.length_append, List.length_cons]; omega
      have := lcut_yes W ⟨(textD l sc).toArray⟩ (keptT sc l).length hs hi (by show _ < (textD l sc).length; omega)
      rw [txt_ext (ByteArray.extract ⟨(textD l sc).toArray⟩ 0 (keptT sc l).length) ⟨(keptT sc l).toArray⟩ (by rw [ext_list]; show List.drop 0 (List.take _ (textD l sc)) = _; rw [e]; simp),
        txt_ext (ByteArray.extract ⟨(textD l sc).toArray⟩ ((keptT sc l).length + 1) (⟨(textD l sc).toArray⟩ : ByteArray).size) ⟨(restT sc l).toArray⟩ (by rw [ext_list]; show List.drop _ (List.take (textD l sc).length (textD l sc)) = _; rw [List.take_length, e]; simp)] at this
      rw [decide_eq_true h0]
      exact this
    · obtain rfl : sc = 0 := by omega
      have hp : padT 0 l = l := by
        unfold padT
        have : 1 ≤ l.length := by cases l with | nil => exact absurd rfl hl | cons a r => simp
        rw [show 0 + 1 - l.length = 0 by omega]; rfl
      have e : textD l 0 = l := by unfold textD; rw [if_neg (by omega)]
      have ek : keptT 0 l = l := by unfold keptT; rw [hp, Nat.sub_zero, List.take_length]
      have er : restT 0 l = [] := by unfold restT; rw [hp, Nat.sub_zero, List.drop_length]
      rw [e, ek, er]
      have := lcut_no W ⟨l.toArray⟩ (idx_no l (fun hm => hok 46 (by rw [hp]; exact hm) rfl))
      exact this
  generalize (⟨(textD l sc).toArray⟩ : ByteArray) = T at *
  generalize (⟨(keptT sc l).toArray⟩ : ByteArray) = A at *
  generalize (⟨(restT sc l).toArray⟩ : ByteArray) = B at *
  generalize decide (0 < sc) = f at *
  clear hok hs ho hl
  go_enter Tryd.func65, Tryd.ntmps65
  go_wp2_with (go_at_call 101; refine (HL _).out.mono ?_; rintro e w1 ⟨rfl, hk⟩)
  exact bodyPost_ret (v := .tuple #[.string A, .string B, .bool f]) (by simp [results, Tryd.results65, go_sem]) rfl ⟨rfl, hk⟩
end Go.Proofs.YtkkglaglnfebjaaDoor

namespace Go.Proofs.YtkkglaglnfebjaaDoor

/-- Digits without noughts ahead. -/
structure CanT (l : List UInt8) : Prop where
  ne : l ≠ []
  ok : okT l
  hd : l.head? = some 48 → l = [48]
theorem CanT.decB {l : List UInt8} (h : CanT l) (hl : l.length ≤ 400) (sc : Int) (h0 : 0 ≤ sc) (h1 : sc ≤ 400) : decB false ⟨l.toArray⟩ sc = true := by
  have hs : (⟨l.toArray⟩ : ByteArray).size = l.length := rfl
  have hpos : 1 ≤ l.length := List.length_pos_iff.2 h.ne
  rw [decB_yes ⟨by omega, by omega, h0, h1⟩]
  have hd : digsB ⟨l.toArray⟩ = true := by
    unfold digsB
    rw [Bool.and_eq_true]
    refine ⟨List.all_eq_true.2 fun b hb => ?_, ?_⟩
    · have := h.ok b (by simpa using hb)
      unfold isD at this
      unfold digB
      exact decide_eq_true (by omega)
    · rw [toList_ne rfl h.ne]; rfl
  rw [hd, Bool.and_true, hs]
  match l, h with
  | [], h => exact absurd rfl h.ne
  | a :: r, h =>
    show (!(decide (a.toNat = 48) && (decide (1 < (a :: r).length) || false))) = true
    by_cases ha : a = 48
    · subst ha
      rw [h.hd rfl]; rfl
    · have : ¬ a.toNat = 48 := fun hx => ha (UInt8.toNat_inj.1 hx)
      rw [decide_eq_false this]; rfl
theorem can_of {neg : Bool} {s : ByteArray} {sc : Int} (h : decB neg s sc = true) : CanT s.data.toList ∧ 1 ≤ s.size ∧ s.size ≤ 400 ∧ 0 ≤ sc ∧ sc ≤ 400 ∧ (neg = true → s.data.toList ≠ [48]) := by
  unfold decB at h
  rw [Bool.and_eq_true, Bool.and_eq_true, decide_eq_true_eq] at h
  obtain ⟨⟨⟨h1, h2, h3, h4⟩, h5⟩, h6⟩ := h
  have hl : s.data.toList.length = s.size := txt_len s
  have hne : s.data.toList ≠ [] := fun e => by rw [e] at hl; simp at hl; omega
  have hg : s.get! 0 = s.data.toList.head hne := by
    rw [get!_eq s 0 (by omega)]
    have e1 : s.data.toList.head hne = s.data.toList[0]'(by omega) := List.head_eq_getElem hne
    rw [e1]; rfl
  rw [hg] at h5
  refine ⟨⟨hne, fun b hb => ?_, fun hh => ?_⟩, h1, h2, h3, h4, fun hn he => ?_⟩
  · unfold digsB at h6
    rw [Bool.and_eq_true] at h6
    have := List.all_eq_true.1 h6.1 b hb
    unfold digB at this
    have := of_decide_eq_true this
    unfold isD
    omega
  · have e48 : s.data.toList.head hne = 48 := by
      rw [List.head?_eq_some_head hne] at hh
      exact Option.some.inj hh
    rw [e48] at h5
    have : ¬ 1 < s.size := fun hx => by
      rw [decide_eq_true hx] at h5
      revert h5; cases neg <;> decide
    match hx : s.data.toList, hl with
    | [], hl => simp at hl; omega
    | [a], _ =>
      have : s.data.toList.head? = some a := by rw [hx]; rfl
      rw [hh] at this
      rw [← Option.some.inj this]
    | _ :: _ :: _, hl => simp at hl; omega
  · have e48 : s.data.toList.head hne = 48 := by simp [he]
    rw [e48, hn] at h5
    revert h5
    cases decide (1 < s.size) <;> decide
theorem canon_can {l : List UInt8} (h : okT l) : CanT (canon l) := by
  unfold canon
  split
  · exact ⟨by simp, fun b hb => by
      obtain rfl : b = 48 := by simpa using hb
      unfold isD; decide, fun _ => rfl⟩
  · rename_i hne
    refine ⟨hne, fun b hb => h b ((List.dropWhile_sublist _).subset hb), fun hh => ?_⟩
    exfalso
    have := List.head_dropWhile_not (fun b : UInt8 => b == 48) hne
    rw [List.head?_eq_some_head hne] at hh
    rw [Option.some.inj hh] at this
    exact absurd this (by decide)
theorem okT_pad {l : List UInt8} (n : Nat) (h : okT l) : okT (padT n l) := fun b hb => by
  unfold padT at hb
  rcases List.mem_append.1 hb with hb | hb
  · obtain rfl := List.eq_of_mem_replicate hb
    unfold isD; decide
  · exact h b hb
theorem okT_kept {l : List UInt8} (n : Nat) (h : okT l) : okT (keptT n l) := fun b hb => okT_pad n h b (List.mem_of_mem_take hb)
theorem isD_toB (z : Int) (h0 : 0 ≤ z) (h9 : z ≤ 9) : isD (toB z) := by
  have := toB_nat z h0 h9
  unfold isD
  omega
theorem okT_plus1 {l : List UInt8} (h : okT l) : okT (plus1 l) := fun b hb => by
  unfold plus1 at hb
  obtain ⟨z, hz, rfl⟩ := List.mem_map.1 hb
  have := okR_addT _ 1 (okR_row l h) (by omega) (by omega) z (List.mem_reverse.1 hz)
  exact isD_toB z this.1 this.2
theorem round_can {l : List UInt8} (c : Nat) (h : okT l) : CanT (roundP c l) := by
  unfold roundP
  apply canon_can
  split
  · exact okT_plus1 (okT_kept c h)
  · exact okT_kept c h
theorem plus1_len (l : List UInt8) : (plus1 l).length = l.length + 1 := by
  unfold plus1
  rw [List.length_map, List.length_reverse, addT_len, rowOf_len]
theorem round_len (c : Nat) (l : List UInt8) (hc : 1 ≤ c) (hl : l.length ≤ 400) (h1 : c ≤ 400) : (roundP c l).length ≤ 400 := by
  unfold roundP
  have hk := keptT_len c l
  have h2 := canon_len (if upP (oddT (keptT c l)) (restT c l) = true then plus1 (keptT c l) else keptT c l)
  have h3 : (if upP (oddT (keptT c l)) (restT c l) = true then plus1 (keptT c l) else keptT c l).length ≤ 400 := by
    split
    · rw [plus1_len]; omega
    · omega
  omega
theorem trim_can (least : Nat) : ∀ (sc : Nat) (l : List UInt8), CanT l → CanT (trimL sc l least).1 ∧ (trimL sc l least).1.length ≤ l.length ∧ (trimL sc l least).2 ≤ sc
  | 0, l, h => ⟨h, Nat.le_refl _, Nat.le_refl _⟩
  | s + 1, l, h => by
    unfold trimL
    split
    · have hc : CanT (if 1 < l.length then l.dropLast else l) := by
        split
        · rename_i h1
          refine ⟨fun e => ?_, fun b hb => h.ok b (List.dropLast_subset l hb), fun hh => ?_⟩
          · have := congrArg List.length e
            rw [List.length_dropLast] at this
            simp at this; omega
          · exfalso
            match l, h with
            | [], _ => simp at h1
            | [_], _ => simp at h1
            | a :: b :: r, h =>
              have ha : a = 48 := by simpa [List.dropLast] using hh
              subst ha
              have := h.hd rfl
              simp at this
        · exact h
      obtain ⟨r1, r2, r3⟩ := trim_can least s _ hc
      refine ⟨r1, Nat.le_trans r2 ?_, by omega⟩
      split
      · rw [List.length_dropLast]; omega
      · exact Nat.le_refl _
    · exact ⟨h, Nat.le_refl _, Nat.le_refl _⟩

/-- A decimal's digits by a pattern: ahead of the point, behind it. -/
def wholeD (xf sc : Nat) (l : List UInt8) : List UInt8 := if xf < sc then keptT xf (roundP (sc - xf) l) else keptT sc l
def fracD (mf xf sc : Nat) (l : List UInt8) : List UInt8 := if xf < sc then stripL mf xf (restT xf (roundP (sc - xf) l)) else restT sc l
def fillW (mi : Nat) (l : List UInt8) : List UInt8 := List.replicate (mi - l.length) 48 ++ l
def fillF (mf : Nat) (l : List UInt8) : List UInt8 := l ++ List.replicate (mf - l.length) 48
/-- The program's way there. -/
def digD (mf xf sc : Nat) (l : List UInt8) : List UInt8 × Nat := if xf < sc then trimL xf (roundP (sc - xf) l) mf else (l, sc)
theorem digD_eq (mf xf sc : Nat) (l : List UInt8) (h : okT l) : keptT (digD mf xf sc l).2 (digD mf xf sc l).1 = wholeD xf sc l ∧ restT (digD mf xf sc l).2 (digD mf xf sc l).1 = fracD mf xf sc l := by
  unfold digD wholeD fracD
  by_cases hx : xf < sc
  · rw [if_pos hx, if_pos hx, if_pos hx]
    exact trim_strip mf xf _ (round_can _ h).ne
  · rw [if_neg hx, if_neg hx, if_neg hx]
    exact ⟨rfl, rfl⟩
theorem digD_can (mf xf sc : Nat) (l : List UInt8) (h : CanT l) (hl : l.length ≤ 400) (hsc : sc ≤ 400) : CanT (digD mf xf sc l).1 ∧ (digD mf xf sc l).1.length ≤ 400 ∧ (digD mf xf sc l).2 ≤ 400 := by
  unfold digD
  by_cases hx : xf < sc
  · rw [if_pos hx]
    obtain ⟨h1, h2, h3⟩ := trim_can mf xf _ (round_can (sc - xf) h.ok)
    have := round_len (sc - xf) l (by omega) hl (by omega)
    exact ⟨h1, by omega, by omega⟩
  · rw [if_neg hx]
    exact ⟨h, hl, hsc⟩
end Go.Proofs.YtkkglaglnfebjaaDoor
