/- Walks: dec.Check, scaled. Walks: dec.plus; bytes of the call's own. Walks: dec.up (half to even), made. -/
import Derived.Test.YtkkglaglnfebjaaDoorWDig
import Derived.Test.YtkkglaglnfebjaaDoorRA
import Derived.Test.YtkkglaglnfebjaaDoorDL
import Derived.WalkMore
import Derived.Test.YtkkglaglnfebjaaDoorWForm
import Derived.Test.YtkkglaglnfebjaaDoorBase
import Derived.Lib.SlBytesRow
import Derived.Deep.DeepCutAuto
import Derived.Deep.LoopGhost
import Derived.BigQuiet
namespace Go.Proofs.YtkkglaglnfebjaaDoor
open Go.RowKit Go.IntWalk

/-- A decimal, as a value; whether it may be. -/
def decV (neg : Bool) (s : ByteArray) (sc : Int) : Value := .agg #[.bool neg, .string s, .int .i64 sc]
def decB (neg : Bool) (s : ByteArray) (sc : Int) : Bool := decide (1 ≤ s.size ∧ s.size ≤ 400 ∧ 0 ≤ sc ∧ sc ≤ 400) && !(decide ((s.get! 0).toNat = 48) && (decide (1 < s.size) || neg)) && digsB s
theorem decB_no {neg : Bool} {s : ByteArray} {sc : Int} (h : ¬ (1 ≤ s.size ∧ s.size ≤ 400 ∧ 0 ≤ sc ∧ sc ≤ 400)) : decB neg s sc = false := by
  unfold decB
  rw [decide_eq_false h]; rfl
theorem decB_yes {neg : Bool} {s : ByteArray} {sc : Int} (h : 1 ≤ s.size ∧ s.size ≤ 400 ∧ 0 ≤ sc ∧ sc ≤ 400) : decB neg s sc = (!(decide ((s.get! 0).toNat = 48) && (decide (1 < s.size) || neg)) && digsB s) := by
  unfold decB
  rw [decide_eq_true h]; rfl
set_option maxRecDepth 100000 in
set_option maxHeartbeats 400000 in
theorem dcheck_any (w : World) (neg : Bool) (s : ByteArray) (sc : Int) (hs : s.size ≤ 9223372036854775800) :
    Calls Tryd.prog 62 #[decV neg s sc] w fun e w' => e = .returned (.int .i64 (errB (decB neg s sc))) ∧ Keep [] w w' := by
  have HK := Lib.hid ((Keep.refl [] w).alloc (.cells #[.bool neg, .string s, .int .i64 sc] 51))
  unfold decV
  go_enter Tryd.func62, Tryd.ntmps62
  by_cases c1 : s.size < 1
  · have HE := Lib.hid (decB_no (neg := neg) (s := s) (sc := sc) (by omega))
    go_wp2
    go_ret
    exact ⟨by rw [HE.out]; rfl, HK.out⟩
  by_cases c2 : 400 < s.size
  · have HE := Lib.hid (decB_no (neg := neg) (s := s) (sc := sc) (by omega))
    go_wp2
    go_ret
    exact ⟨by rw [HE.out]; rfl, HK.out⟩
  by_cases c3 : sc < 0
  · have HE := Lib.hid (decB_no (neg := neg) (s := s) (sc := sc) (by omega))
    go_wp2
    go_ret
    exact ⟨by rw [HE.out]; rfl, HK.out⟩
  by_cases c4 : 400 < sc
  · have HE := Lib.hid (decB_no (neg := neg) (s := s) (sc := sc) (by omega))
    go_wp2
    go_ret
    exact ⟨by rw [HE.out]; rfl, HK.out⟩
  have h0 : 0 < s.size := by omega
  have HY := Lib.hid (decB_yes (neg := neg) (s := s) (sc := sc) (by omega))
  have hg0 : s.get! 0 = s[0] := get!_eq s 0 h0
  by_cases c5 : ((s[0].toNat : Int) = 48) ∧ (1 < s.size ∨ neg = true)
  · have HE : Hid (decB neg s sc = false) := by
      rw [HY.out, hg0, decide_eq_true (show s[0].toNat = 48 by omega)]
      rcases c5.2 with h | h
      · rw [decide_eq_true h]; rfl
      · rw [h, Bool.or_true]; rfl
    clear hg0
    obtain ⟨c5, c6⟩ := c5
    by_cases c7 : 1 < s.size
    · clear c6
      go_wp2
      go_ret
      exact ⟨by rw [HE.out]; rfl, HK.out⟩
    · obtain rfl : neg = true := by rcases c6 with h | h; exact absurd h c7; exact h
      clear c6
      go_wp2
      go_ret
      exact ⟨by rw [HE.out]; rfl, HK.out⟩
  have HE : Hid (decB neg s sc = digsB s) := by
    rw [HY.out, hg0]
    by_cases h : s[0].toNat = 48
    · have h1 : ¬ 1 < s.size := fun h1 => c5 ⟨by omega, .inl h1⟩
      have h2 : neg = false := by cases neg; rfl; exact absurd ⟨by omega, .inr rfl⟩ c5
      rw [decide_eq_true h, decide_eq_false h1, h2]; rfl
    · rw [decide_eq_false h]; rfl
  clear HY hg0
  have hne : s.toList.isEmpty = false := by
    rw [ByteArray.toList_eq]
    cases hl : s.data.toList with
    | nil =>
      have h1 : s.data.toList.length = 0 := by rw [hl]; rfl
      rw [show s.data.toList.length = s.size by simp] at h1
      omega
    | cons a l => rfl
  have HNE := Lib.hid hne
  clear hne
  refine Or.elim (Decidable.em ((s[0].toNat : Int) = 48)) (fun c6 => ?_) (fun c6 => ?_)
  all_goals
    first
    | (have c7 : ¬ 1 < s.size := fun h => c5 ⟨c6, .inl h⟩
       obtain rfl : neg = false := by
         cases neg
         · rfl
         · exact absurd ⟨c6, .inr rfl⟩ c5
       clear c5)
    | clear c5
    go_wp2
    clear c1 c2
    go_loop [4] (fun i => ∃ k : Nat, k ≤ s.size ∧ i = .int .i64 k ∧ ∀ j, j < k → digB (s.get! j).toNat = true) (fun i => s.size - (intOf i).toNat)
    case atStart => exact ⟨0, Nat.zero_le _, rfl, fun j h => absurd h (by omega)⟩
    case round =>
      obtain ⟨k, hk, rfl, hall⟩ := hrel
      have HA := Lib.hid hall
      clear hall
      by_cases hlt : k < s.size
      · have hw : IntKind.i64.wrap ((k : Int) + 1) = (k : Int) + 1 := by simp [IntKind.wrap, IntKind.bits, IntKind.signed]; omega
        cases hd : digB s[k].toNat
        · have HF := Lib.hid (all_upto s k hlt hd)
          have hd2 : (s[k].toNat : Int) < 48 ∨ (57 < (s[k].toNat : Int)) := by
            unfold digB at hd
            have := of_decide_eq_false hd
            omega
          clear hd
          rcases hd2 with d1 | d1
          · go_wp2
            go_ret
            exact ⟨by rw [HE.out, HF.out]; rfl, HK.out⟩
          · have d2 : ¬ (s[k].toNat : Int) < 48 := by omega
            go_wp2
            go_ret
            exact ⟨by rw [HE.out, HF.out]; rfl, HK.out⟩
        · have HF : Hid (∀ j, j < k + 1 → digB (s.get! j).toNat = true) := fun j hj => by
            by_cases h : j < k
            · exact HA.out j h
            · have : j = k := by omega
              subst this
              rw [get!_eq s j hlt]; exact hd
          have hd2 : 48 ≤ (s[k].toNat : Int) ∧ (s[k].toNat : Int) ≤ 57 := by
            unfold digB at hd
            exact of_decide_eq_true hd
          obtain ⟨d1, d2⟩ := hd2
          go_wp2
          go_round
          case rel => exact ⟨k + 1, by omega, by go_num, HF.out⟩
          case measure => simp [intOf]; omega
      · have hk2 : k = s.size := by omega
        subst hk2
        have HF := Lib.hid (all_end s HA.out)
        go_wp2
        go_ret
        exact ⟨by rw [HE.out, HF.out, HNE.out]; rfl, HK.out⟩

set_option maxRecDepth 100000 in
set_option maxHeartbeats 400000 in
theorem scaled_any (w : World) (neg : Bool) (s : ByteArray) (sc : Int) (hs : s.size ≤ 9223372036854775800) (h : decB neg s sc = true) (k : Int) (h0 : 0 ≤ k) (h1 : k ≤ 400) :
    Calls Tryd.prog 70 #[decV neg s sc, .int .i64 k] w fun e w' => e = .returned (.int .i64 0) ∧ Keep [] w w' := by
  have HK := Lib.hid ((Keep.refl [] w).alloc (.cells #[.bool neg, .string s, .int .i64 sc] 51))
  have HC := Lib.hid (dcheck_any (w.alloc (.cells #[.bool neg, .string s, .int .i64 sc] 51)) neg s sc hs)
  rw [h] at HC
  change Hid (Calls _ _ _ _ fun e w' => e = .returned (.int .i64 0) ∧ Keep [] _ w') at HC
  clear h
  unfold decV at *
  go_enter Tryd.func70, Tryd.ntmps70
  go_wp2_with (go_at_call 62; refine HC.out.mono ?_; rintro e w' ⟨rfl, hk⟩)
  go_ret
  exact ⟨rfl, HK.out.nil hk⟩
end Go.Proofs.YtkkglaglnfebjaaDoor

namespace Go.Proofs.YtkkglaglnfebjaaDoor
open Go.RowKit Go.IntWalk

/-- Bytes, as cells. -/
def cellB (b : UInt8) : Value := .int .u8 b.toNat
def arrB (l : List UInt8) : Array Value := (l.map cellB).toArray
theorem arrB_set (m : Nat) (l : List UInt8) (b : UInt8) : (arrB (fillB (m + 1) l)).setIfInBounds m (cellB b) = arrB (fillB m (b :: l)) := by
  unfold arrB
  rw [List.setIfInBounds_toArray, ← List.map_set, fillB_set]
theorem arrB_at (l : List UInt8) (i : Nat) : (arrB l)[i]? = l[i]?.map cellB := by
  unfold arrB
  rw [List.getElem?_toArray, List.getElem?_map]
theorem toB_nat (z : Int) (h0 : 0 ≤ z) (h9 : z ≤ 9) : ((toB z).toNat : Int) = 48 + z := by
  unfold toB
  rw [UInt8.toNat_ofNat']
  change ((z + 48).toNat % 256 : Nat) = (48 + z : Int)
  omega
theorem cell_toB (z : Int) (h0 : 0 ≤ z) (h9 : z ≤ 9) : cellB (toB z) = .int .u8 (48 + z) := by
  unfold cellB
  rw [toB_nat z h0 h9]
theorem infoU8 : (Tryd.prog.info? 5).map (fun i => (i.zero, i.size, i.bytes)) = some (some (.int .u8 0), 1, 1) := by kernel_rfl
theorem run_make_bytes (n : Nat) (hn : n ≤ 1000000000) (w : World) (N : Int) (hN : N = n) : (Instr.makeSlice 84 (.int .i64 N) (.int .i64 N)).run Tryd.prog w =
    .ok (.slice (some ⟨w.heap.size, 0, none⟩) n n) (w.alloc (.cells (arrB (fillB n [])) 5)) := by
  subst hN
  obtain ⟨i0, hi, hz0, hz1, hz2⟩ := info_parts infoU8
  have h := run_make (P := Tryd.prog) w 84 5 i0 _ Tryd.underlying84 hi hz0 .i64 .i64 n n (by omega) (Int.le_refl _) (by rw [hz2]; omega) (by omega)
  rw [hz1, Int.toNat_natCast, Nat.mul_one] at h
  rw [h]
  have e : madeCells (Value.int .u8 0).cells n = arrB (fillB n []) := by
    apply Array.toList_inj.1
    show (madeCells #[.int .u8 0] n).toList = _
    rw [toList_madeCells_one]
    unfold arrB fillB
    rw [List.append_nil, List.map_replicate]; rfl
  rw [e]
/-- A slice of bytes that reads. -/
def RdU (w : World) (v : Value) (s : ByteArray) : Prop := ∃ g cap, v = .slice (some ⟨g, 0, none⟩) s.size cap ∧ g < w.heap.size ∧ ∀ i (h : i < s.size), w.cell? ⟨g, i, none⟩ = some (.int .u8 (s[i].toNat : Int))
theorem RdU.keep_nil {w w' : World} {v : Value} {s : ByteArray} (h : RdU w v s) (hk : Keep [] w w') : RdU w' v s := by
  obtain ⟨g, cap, rfl, hg, hc⟩ := h
  exact ⟨g, cap, rfl, Nat.lt_of_lt_of_le hg hk.size, fun i hi => (hk.cell (p := ⟨g, i, none⟩) hg (by simp)).trans (hc i hi)⟩
/-- The world behind '[]byte(s)'. -/
def bytesW (w : World) (s : ByteArray) : World := w.drew.alloc (.cells (bytesRow s (grownCap w s.size 0 5)) 5 ((bytesRow s (grownCap w s.size 0 5)).size, (bytesRow s (grownCap w s.size 0 5)).size + 1))
theorem run_bytes (w : World) (s : ByteArray) : (convert 9 84 (.string s)).run Tryd.prog w = .ok (.slice (some ⟨w.heap.size, 0, none⟩) s.size (grownCap w s.size 0 5)) (bytesW w s) :=
  run_bytes_of_string w _ _ _ s Tryd.underlying9 Tryd.underlying84 Tryd.underlying5
theorem bytesW_keep (w : World) (s : ByteArray) : Keep [] w (bytesW w s) := (Keep.refl [] w).drew.alloc _
theorem bytesW_rd (w : World) (s : ByteArray) : RdU (bytesW w s) (.slice (some ⟨w.heap.size, 0, none⟩) s.size (grownCap w s.size 0 5)) s := by
  refine ⟨_, _, rfl, ?_, fun i hi => ?_⟩
  · simp [bytesW]
  · have hb : (bytesW w s).heap[w.heap.size]? = some _ := heap_alloc_new w.drew _
    rw [cell_of_row _ _ _ _ _ _ hb]
    have hi' : i < s.data.size := hi
    unfold bytesRow
    rw [Array.getElem?_append_left (by rw [Array.size_map]; exact hi'), Array.getElem?_map, Array.getElem?_eq_getElem hi']; rfl
/-- 'string(b)' of bytes of the call's own. -/
theorem run_text {w : World} {g : Nat} {l : List UInt8} (h : Blk w g 5 (arrB l)) (n cap : Nat) (hn : n = l.length) : (convert 84 9 (.slice (some ⟨g, 0, none⟩) n cap)).run Tryd.prog w = .ok (.string ⟨l.toArray⟩) w := by
  obtain rfl : n = (⟨l.toArray⟩ : ByteArray).size := hn
  refine Lib.run_convert_whole w _ _ _ Tryd.underlying84 Tryd.underlying5 Tryd.underlying9 g 0 ⟨l.toArray⟩ (fun i hi => ?_) cap
  have hi' : i < l.length := hi
  rw [Nat.zero_add, h.cell, arrB_at, List.getElem?_eq_getElem hi']; rfl

/-- The sum's bytes. -/
def plusB (s t : ByteArray) : ByteArray := ⟨((sumR (rowOf s.data.toList) (rowOf t.data.toList) 0).reverse.map toB).toArray⟩
theorem row_byte (s : ByteArray) (i : Nat) (h : i < s.size) : atL (rowOf s.data.toList) (s.size - 1 - i) = (s[i].toNat : Int) - 48 := by
  have hl : s.data.toList.length = s.size := by simp
  rw [rowOf_at _ _ (by omega)]
  have e : s.data.toList.length - 1 - (s.size - 1 - i) = i := by omega
  simp only [e]
  rfl

set_option maxRecDepth 100000 in
set_option maxHeartbeats 1000000 in
theorem plus_any (w : World) (g1 g2 c1 c2 : Nat) (s t : ByteArray) (hst : t.size = s.size) (h1 : 1 ≤ s.size) (hn : s.size ≤ 1000) (hs : okT s.data.toList) (ht : okT t.data.toList) (hx : RdU w (.slice (some ⟨g1, 0, none⟩) s.size c1) s) (hy : RdU w (.slice (some ⟨g2, 0, none⟩) t.size c2) t) :
    Calls Tryd.prog 72 #[.slice (some ⟨g1, 0, none⟩) s.size c1, .slice (some ⟨g2, 0, none⟩) t.size c2] w fun e w' => e = .returned (.string (plusB s t)) ∧ Keep [] w w' := by
  have HX := Lib.hid hx
  have HY := Lib.hid hy
  have HS : Hid (∀ i (h : i < s.size), 48 ≤ s[i].toNat ∧ s[i].toNat ≤ 57) := fun i h => hs s[i] (by simp [ByteArray.getElem_eq_getElem_data])
  have HT : Hid (∀ i (h : i < t.size), 48 ≤ t[i].toNat ∧ t[i].toNat ≤ 57) := fun i h => ht t[i] (by simp [ByteArray.getElem_eq_getElem_data])
  have HLs : Hid ((rowOf s.data.toList).length = s.size) := by unfold Hid; rw [rowOf_len]; simp
  have HLt : Hid ((rowOf t.data.toList).length = s.size) := by unfold Hid; rw [rowOf_len]; simp [hst]
  have HMk := fun W : World => run_make_bytes (s.size + 1) (by omega) W ((s.size : Int) + 1) (by omega)
  have hwr : IntKind.i64.wrap ((s.size : Int) + 1) = (s.size : Int) + 1 := by simp [IntKind.wrap, IntKind.bits, IntKind.signed]; omega
  have hwr2 : IntKind.i64.wrap ((s.size : Int) - 1) = (s.size : Int) - 1 := by simp [IntKind.wrap, IntKind.bits, IntKind.signed]; omega
  rw [hst] at HY
  rw [hst]
  clear hs ht hx hy
  go_enter Tryd.func72, Tryd.ntmps72
  go_wp2_with fail
  go_loopg [6, 7] s.size (fun k s6 s7 wx => ∃ (c : Int) (done : List Int), s6 = .int .u8 c ∧ s7 = .int .i64 ((k : Int) - 1) ∧ 0 ≤ c ∧ c ≤ 1 ∧ done.length + k = s.size ∧ Blk wx w.heap.size 5 (arrB (fillB (k + 1) (done.reverse.map toB))) ∧
    done ++ sumR ((rowOf s.data.toList).drop (s.size - k)) ((rowOf t.data.toList).drop (s.size - k)) c = sumR (rowOf s.data.toList) (rowOf t.data.toList) 0 ∧ Keep [] w wx)
  case atStart => exact ⟨0, [], rfl, rfl, by omega, by omega, by simp, Blk.new _ _ _, by simp, (Keep.refl [] w).alloc _⟩
  case round =>
    obtain ⟨c, done, rfl, rfl, hc0, hc1, hd, hB, hT, hK⟩ := hrel
    rcases gk with _ | m
    · have hw : IntKind.u8.wrap (48 + c) = 48 + c := by simp [IntKind.wrap, IntKind.bits, IntKind.signed]; omega
      have HB1 : Hid (Blk (wr.setCell ⟨w.heap.size, 0, none⟩ (.int .u8 (48 + c))) w.heap.size 5 (arrB (toB c :: done.reverse.map toB))) := by
        have := Blk.set_ hB 0 (.int .u8 (48 + c))
        rw [← cell_toB c hc0 (by omega), arrB_set 0, fillB_zero] at this
        rwa [cell_toB c hc0 (by omega)] at this
      have hcv := run_text HB1.out (s.size + 1) (s.size + 1) (by simp; omega)
      have hf := hB.frozen 0
      have HE : Hid (done ++ [c] = sumR (rowOf s.data.toList) (rowOf t.data.toList) 0) := by
        rw [sumR_end _ _ _ _ (by rw [HLs.out]; omega)] at hT
        exact hT
      have HK := Lib.hid hK
      have hcl : wr.cell? ⟨w.heap.size, 0, none⟩ = some (.int .u8 0) := hB.cell_eq rfl
      clear hT hd hB hK HB1
      go_wp2
      go_ret
      have HP : plusB s t = ⟨(toB c :: (done.map toB).reverse).toArray⟩ := by
        unfold plusB
        rw [← HE.out]; simp
      exact ⟨by rw [HP]; rfl, HK.out.setCell (.inr (Nat.le_refl _)) _⟩
    · have hi : s.size - 1 - m < s.size := by omega
      have hm : m < s.size := by omega
      have hmt : m < t.size := by omega
      obtain ⟨g1', c1', e1, hg1, hx⟩ := HX.out
      obtain ⟨g2', c2', e2, hg2, hy⟩ := HY.out
      cases e1
      simp only [Value.slice.injEq, Option.some.injEq, Addr.mk.injEq] at e2
      obtain ⟨⟨rfl, -, -⟩, -, rfl⟩ := e2
      have ha := HS.out m hm
      have hb := HT.out m hmt
      have hcx : wr.cell? ⟨g1, m, none⟩ = some (.int .u8 (s[m].toNat : Int)) := (hK.cell (p := ⟨g1, m, none⟩) hg1 (by simp)).trans (hx m hm)
      have hcy : wr.cell? ⟨g2, m, none⟩ = some (.int .u8 (t[m].toNat : Int)) := (hK.cell (p := ⟨g2, m, none⟩) hg2 (by simp)).trans (hy m hmt)
      have ra := row_byte s m hm
      have rb := row_byte t m hmt
      rw [hst] at rb
      have hn1 : s.size - (m + 1) = s.size - 1 - m := by omega
      have hst2 := sumR_step (rowOf s.data.toList) (rowOf t.data.toList) (s.size - 1 - m) c (by rw [HLs.out]; omega) (by rw [HLt.out]; omega)
      rw [hn1, hst2, ra, rb, show s.size - 1 - m + 1 = s.size - m by omega] at hT
      have ha0 : 48 ≤ (s[m].toNat : Int) ∧ (s[m].toNat : Int) ≤ 57 := by omega
      have hb0 : 48 ≤ (t[m].toNat : Int) ∧ (t[m].toNat : Int) ≤ 57 := by omega
      generalize (s[m].toNat : Int) = a at *
      generalize (t[m].toNat : Int) = b at *
      have hmi : ((m + 1 : Nat) : Int) - 1 = m := by omega
      rw [hmi]
      have HB := Lib.hid hB
      have HK := Lib.hid hK
      have HT2 := Lib.hid hT
      clear hx hy ha hb hst2 ra rb hB hK hT
      have w1 : IntKind.u8.wrap (a - 48) = a - 48 := by simp [IntKind.wrap, IntKind.bits, IntKind.signed]; omega
      have w2 : IntKind.u8.wrap (a - 48 + b) = a - 48 + b := by simp [IntKind.wrap, IntKind.bits, IntKind.signed]; omega
      have w3 : IntKind.u8.wrap (a - 48 + b - 48) = a - 48 + b - 48 := by simp [IntKind.wrap, IntKind.bits, IntKind.signed]; omega
      have w4 : IntKind.u8.wrap (a - 48 + b - 48 + c) = a - 48 + b - 48 + c := by simp [IntKind.wrap, IntKind.bits, IntKind.signed]; omega
      go_upto_region 6 with fail
      go_quiet (fail)
      have hn0 : 0 ≤ a - 48 + b - 48 + c ∧ a - 48 + b - 48 + c ≤ 19 := by omega
      rw [show a - 48 + (b - 48) + c = a - 48 + b - 48 + c by omega] at HT2
      clear w1 w2 w3 w4 hcx hcy
      generalize a - 48 + b - 48 + c = n at *
      have d1 : n.tdiv 10 = n / 10 := Int.tdiv_eq_ediv_of_nonneg hn0.1
      have d2 : n.tmod 10 = n % 10 := Int.tmod_eq_emod_of_nonneg hn0.1
      have w1 : IntKind.u8.wrap (n / 10) = n / 10 := by simp [IntKind.wrap, IntKind.bits, IntKind.signed]; omega
      have w2 : IntKind.u8.wrap (n % 10) = n % 10 := by simp [IntKind.wrap, IntKind.bits, IntKind.signed]; omega
      have w3 : IntKind.u8.wrap (48 + n % 10) = 48 + n % 10 := by simp [IntKind.wrap, IntKind.bits, IntKind.signed]; omega
      have w4 : IntKind.i64.wrap ((m : Int) + 1) = (m : Int) + 1 := by simp [IntKind.wrap, IntKind.bits, IntKind.signed]; omega
      have w5 : IntKind.i64.wrap ((m : Int) - 1) = (m : Int) - 1 := by simp [IntKind.wrap, IntKind.bits, IntKind.signed]; omega
      have hf := HB.out.frozen (m + 1)
      have hcl : wr.cell? ⟨w.heap.size, m + 1, none⟩ = some (.int .u8 0) := HB.out.cell_eq (by
        rw [arrB_at]
        unfold fillB
        rw [List.getElem?_append_left (by simp), List.getElem?_replicate, if_pos (by omega)]; rfl)
      have HB2 : Hid (Blk ((wr.drewN nq).setCell ⟨w.heap.size, m + 1, none⟩ (.int .u8 (48 + n % 10))) w.heap.size 5 (arrB (fillB (m + 1) ((done ++ [n % 10]).reverse.map toB)))) := by
        have := Blk.set_ (HB.out.drewN nq) (m + 1) (.int .u8 (48 + n % 10))
        rw [← cell_toB (n % 10) (by omega) (by omega), arrB_set (m + 1)] at this
        rw [List.reverse_append]
        rwa [cell_toB (n % 10) (by omega) (by omega)] at this
      go_wp2
      go_roundg m
      case measure => omega
      case rel => exact ⟨n / 10, done ++ [n % 10], rfl, by go_num, by omega, by omega, by simp; omega, HB2.out, by rw [← HT2.out]; simp, (HK.out.drewN nq).setCell (.inr (Nat.le_refl _)) _⟩
end Go.Proofs.YtkkglaglnfebjaaDoor

namespace Go.Proofs.YtkkglaglnfebjaaDoor
open Go.RowKit Go.IntWalk

theorem rep48 (n : Nat) (h1 : n ≤ 1000) (W : World) (N : Int) (hN : N = n) :
    Calls Tryd.prog 48 #[.string ⟨#[48]⟩, .int .i64 N] W fun e w' => e = .returned (.string ⟨Array.replicate n 48⟩) ∧ Keep [] W w' := by
  subst hN
  have h := Tryd.strings_Repeat ⟨#[48]⟩ n W (by omega) (by show 1 * n ≤ _; omega)
  have e1 := Lib.repeatL_replicate 48 1 n
  simp only [Nat.mul_one] at e1
  rw [show (⟨#[48]⟩ : ByteArray).data.toList = List.replicate 1 48 from rfl, e1] at h
  exact h.mono fun e w' ⟨h1, h2⟩ => ⟨by rw [h1, List.toArray_replicate], Keep.of_below h2⟩
theorem txt_size (l : List UInt8) : (⟨l.toArray⟩ : ByteArray).size = l.length := rfl
theorem txt_cat (a b : ByteArray) : (a ++ b).data.toList = a.data.toList ++ b.data.toList := by simp
theorem txt_len (a : ByteArray) : a.data.toList.length = a.size := by simp

set_option maxRecDepth 100000 in
set_option maxHeartbeats 400000 in
theorem up_any (w : World) (neg odd : Bool) (r : ByteArray) (h1 : 1 ≤ r.size) (h2 : r.size ≤ 1000) :
    Calls Tryd.prog 71 #[.bool neg, .bool odd, .string r, .int .i64 1] w fun e w' => e = .returned (.bool (upP odd r.data.toList)) ∧ Keep [] w w' := by
  have HR := Lib.hid (rep48 (r.size - 1) (by omega) w ((r.size : Int) - 1) (by omega))
  have hwr : IntKind.i64.wrap ((r.size : Int) - 1) = (r.size : Int) - 1 := by simp [IntKind.wrap, IntKind.bits, IntKind.signed]; omega
  have HP : Hid (upP odd r.data.toList = (decide (0 < Lib.compareBytes r.data.toList (53 :: List.replicate (r.size - 1) 48)) || (decide (Lib.compareBytes r.data.toList (53 :: List.replicate (r.size - 1) 48) = 0) && odd))) := by
    unfold Hid upP halfT
    rw [txt_len]
  have HC : ∀ W, Hid (Calls Tryd.prog 105 #[.string r, .string (⟨#[53]⟩ ++ ⟨Array.replicate (r.size - 1) 48⟩)] W fun e w' => e = .returned (.int .i64 (Lib.compareBytes r.data.toList (53 :: List.replicate (r.size - 1) 48))) ∧ W = w') := fun W => by
    have := Tryd.strings_Compare r (⟨#[53]⟩ ++ ⟨Array.replicate (r.size - 1) 48⟩) W
    rw [txt_cat, Array.toList_replicate] at this
    exact this.mono fun e w' ⟨h1, h2⟩ => ⟨h1, h2.symm⟩
  have HA : ∀ W, (Op.stringOp .add ⟨#[53]⟩ ⟨Array.replicate (r.size - 1) 48⟩).run Tryd.prog W = .ok (.string ((⟨#[53]⟩ : ByteArray) ++ ⟨Array.replicate (r.size - 1) 48⟩)) W := fun W => run_string_add_sum W _ _ (by show 1 + (Array.replicate (r.size - 1) (48 : UInt8)).size ≤ _; rw [Array.size_replicate]; omega)
  generalize Lib.compareBytes r.data.toList (53 :: List.replicate (r.size - 1) 48) = c at *
  have HT : ∀ W, Hid (Calls Tryd.prog 81 #[.string r, .string ⟨#[48]⟩] W fun e w' => e = .returned (.string ⟨(Lib.trimB r.data.toList 48).toArray⟩) ∧ Keep [] W w') := fun W => (Tryd.strings_Trim_one r 48 (by decide) W (by omega)).mono fun e w' ⟨h1, h2⟩ => ⟨h1, by
    rcases h2 with rfl | rfl
    · exact Keep.refl _ _
    · exact (Keep.refl _ _).drew⟩
  generalize (⟨(Lib.trimB r.data.toList 48).toArray⟩ : ByteArray) = T at *
  have hout : upP odd r.data.toList = (decide (0 < c) || decide (c = 0) && odd) := HP.out
  obtain ⟨R, hR⟩ : ∃ R, (decide (0 < c) || decide (c = 0) && odd) = R := ⟨_, rfl⟩
  rw [hout, hR]
  clear HP hout
  refine Or.elim (Decidable.em (0 < c)) (fun c1 => ?_) (fun c1 => Or.elim (Decidable.em (c = 0)) (fun c2 => ?_) (fun c2 => ?_))
  · obtain rfl : true = R := by rw [← hR, decide_eq_true c1]; rfl
    clear hR
    go_enter Tryd.func71, Tryd.ntmps71
    go_wp2_with (first | (go_at_call 48; refine HR.out.mono ?_; rintro e w1 ⟨rfl, hk⟩; have HK := Lib.hid hk; clear hk) | (go_at_call 105; refine (HC _).out.mono ?_; rintro e w2 ⟨rfl, rfl⟩) | (go_at_call 81; refine (HT _).out.mono ?_; rintro e w3 ⟨rfl, hk⟩; have HK3 := Lib.hid (HK.out.nil hk); clear hk))
    go_ret
    exact ⟨rfl, HK3.out⟩
  · subst c2
    obtain rfl : odd = R := by rw [← hR]; rfl
    clear hR c1
    go_enter Tryd.func71, Tryd.ntmps71
    go_wp2_with (first | (go_at_call 48; refine HR.out.mono ?_; rintro e w1 ⟨rfl, hk⟩; have HK := Lib.hid hk; clear hk) | (go_at_call 105; refine (HC _).out.mono ?_; rintro e w2 ⟨rfl, rfl⟩) | (go_at_call 81; refine (HT _).out.mono ?_; rintro e w3 ⟨rfl, hk⟩; have HK3 := Lib.hid (HK.out.nil hk); clear hk))
    go_ret
    exact ⟨rfl, HK3.out⟩
  · obtain rfl : false = R := by rw [← hR, decide_eq_false c1, decide_eq_false c2]; rfl
    clear hR
    go_enter Tryd.func71, Tryd.ntmps71
    go_wp2_with (first | (go_at_call 48; refine HR.out.mono ?_; rintro e w1 ⟨rfl, hk⟩; have HK := Lib.hid hk; clear hk) | (go_at_call 105; refine (HC _).out.mono ?_; rintro e w2 ⟨rfl, rfl⟩) | (go_at_call 81; refine (HT _).out.mono ?_; rintro e w3 ⟨rfl, hk⟩; have HK3 := Lib.hid (HK.out.nil hk); clear hk))
    go_ret
    exact ⟨by rw [show false = decide (0 < c) from (decide_eq_false (by omega)).symm]; rfl, HK3.out⟩

/-- What made answers for digits with noughts ahead. -/
def decT (neg : Bool) (l : List UInt8) (sc : Int) : Value := decV neg ⟨l.toArray⟩ sc
theorem toList_ne {s : ByteArray} {l : List UInt8} (h : s = ⟨l.toArray⟩) (hl : l ≠ []) : s.toList.isEmpty = false := by
  rw [ByteArray.toList_eq, h]
  cases l with
  | nil => exact absurd rfl hl
  | cons a l => rfl
set_option maxRecDepth 100000 in
set_option maxHeartbeats 400000 in
theorem made_any (w : World) (s : ByteArray) (sc : Int) (hl : (canon s.data.toList).length ≤ 400) (h1 : sc ≤ 400) :
    Calls Tryd.prog 73 #[.bool false, .string s, .int .i64 sc] w fun e w' => e = .returned (.tuple #[decT false (canon s.data.toList) sc, .int .i64 0]) ∧ Keep [] w w' := by
  have HT0 : ∀ W, Calls Tryd.prog 33 #[.string s, .string ⟨#[48]⟩] W fun e w' => e = .returned (.string ⟨(s.data.toList.dropWhile (· == 48)).toArray⟩) ∧ W = w' := fun W => (Tryd.strings_TrimLeft_one s 48 (by decide) W).mono fun e w' ⟨h1, h2⟩ => ⟨h1, h2.symm⟩
  unfold decT canon decV
  unfold canon at hl
  cases he : s.data.toList.dropWhile (· == 48) with
  | nil =>
    rw [he] at HT0 hl
    have HT : ∀ W, Hid (Calls Tryd.prog 33 #[.string s, .string ⟨#[48]⟩] W fun e w' => e = .returned (.string ⟨#[]⟩) ∧ W = w') := HT0
    clear HT0 hl he
    rw [if_pos rfl]
    go_enter Tryd.func73, Tryd.ntmps73
    go_wp2_with (go_at_call 33; refine (HT _).out.mono ?_; rintro e w2 ⟨rfl, rfl⟩)
    exact bodyPost_ret (v := .tuple #[.agg #[.bool false, .string ⟨#[48]⟩, .int .i64 sc], .int .i64 0]) (by simp [results, Tryd.results73, go_sem]) rfl ⟨rfl, (Keep.refl _ _).alloc _⟩
  | cons a l =>
    rw [he] at HT0
    rw [if_neg (by rw [he]; simp), he] at hl
    rw [if_neg (by simp)]
    obtain ⟨T, hT⟩ : ∃ T : ByteArray, T = ⟨(a :: l).toArray⟩ := ⟨_, rfl⟩
    rw [← hT] at HT0 ⊢
    have hne := toList_ne hT (by simp)
    have hsz : T.size ≤ 400 := by rw [hT]; exact hl
    have HT := fun W => Lib.hid (HT0 W)
    clear hT HT0 he hl
    go_enter Tryd.func73, Tryd.ntmps73
    go_wp2_with (go_at_call 33; refine (HT _).out.mono ?_; rintro e w2 ⟨rfl, rfl⟩)
    exact bodyPost_ret (v := .tuple #[.agg #[.bool false, .string T, .int .i64 sc], .int .i64 0]) (by simp [results, Tryd.results73, go_sem]) rfl ⟨rfl, (Keep.refl _ _).alloc _⟩
end Go.Proofs.YtkkglaglnfebjaaDoor
