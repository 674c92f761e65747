/- Walks: strings.LastIndexAny at a few ASCII bytes; ReplaceAll at a quote; dress. -/
import Derived.Test.YtjldgcpmdcoejaaGreatDoorDR
import Derived.Test.YtjldgcpmdcoejaaGreatDoorPL
namespace Go.Proofs.YtjldgcpmdcoejaaGreatDoor
open Go.RowKit

/-- Behind where the last byte of C stands; 0: nowhere. -/
def lastC (C : ByteArray) (l : List UInt8) : Nat := l.length - l.reverse.findIdx C.data.toList.contains
set_option maxHeartbeats 8000000 in
set_option maxRecDepth 1000000 in
/-- strings.LastIndexAny, at few bytes to look for, in a text of at most 8 bytes. -/
theorem lany_short (s C : ByteArray) (hC : Few C) (w : World) {B : Nat} (hE : Env B w) (h8 : s.size ≤ 8) (hs1 : s.size ≠ 1) :
    Calls Tryz.prog 64 #[.string s, .string C] w fun e w' => e = .returned (.int .i64 ((lastC C s.data.toList : Nat) - 1)) ∧ Keep [] w w' := by
  have HC := Lib.hid hC
  have HE := Lib.hid hE
  have hemp : C.toList.isEmpty = false := not_empty (by have := hC.n2; omega)
  have hn1 : ((C.size : Int) == 1) = false := beq_eq_false_iff_ne.2 (by have := hC.n2; omega)
  have hn2 : ((s.size : Int) == 1) = false := beq_eq_false_iff_ne.2 (by omega)
  have h8z : decide ((8 : Int) < (s.size : Int)) = false := decide_eq_false (by omega)
  clear hC hE hs1
  have HU : ∀ W, Hid (Calls Tryz.prog 90 #[.int .i64 s.size] W fun e w' => e = .returned (.bool false) ∧ W = w') := fun W => (Tryz.strings_shouldUseASCIISet s.size W).mono fun e w' ⟨h1, h2⟩ => ⟨by rw [h1, h8z], h2.symm⟩
  go_enter Tryz.func64, Tryz.ntmps64
  go_wp2_with (go_at_call 90; refine (HU _).out.mono ?_; rintro e w' ⟨rfl, rfl⟩)
  go_loopw [13, 14, 15] (fun i _ _ wx => ∃ k : Nat, k ≤ s.size ∧ i = .int .i64 k ∧ Keep [] w wx ∧ ∀ (j : Nat) y, k ≤ j → s.data.toList[j]? = some y → C.data.toList.contains y = false) (fun i _ _ _ => (intOf i).toNat)
  case atStart => exact ⟨s.size, Nat.le_refl _, rfl, Keep.refl _ _, fun j y h1 h2 => by
    have := (List.getElem?_eq_some_iff.1 h2).1
    rw [Array.length_toList] at this
    exact absurd this (Nat.not_lt.2 h1)⟩
  case round =>
    obtain ⟨k, hk, rfl, hK, hno⟩ := hrel
    have HK := Lib.hid hK
    have HNO := Lib.hid hno
    clear hK hno
    by_cases hk0 : 0 < k
    · have hk0' : (0 : Int) < (k : Int) := by omega
      have s1 : (0 : Int) ≤ (k : Int) := by omega
      have s2 : (k : Int) ≤ s.size := by omega
      have hdat : (s.extract 0 k).data.toList = s.data.toList.take k := by simp [ByteArray.data_extract]
      have HD := Lib.hid (Tryz.utf8_DecodeLastRuneInString (s.extract 0 k) wr (by rw [ByteArray.size_extract]; omega) (HE.out.keep HK.out (by simp)).tabs)
      rw [hdat] at HD
      by_cases hx : (s[k - 1]'(by omega)).toNat < 128
      · have hd : Lib.decodeLastL (s.data.toList.take k) = ((s[k - 1]'(by omega)).toNat, 1) := by
          have hg : s.data.toList.getD (k - 1) 0 = s[k - 1]'(by omega) := by rw [List.getD_eq_getElem?_getD, list_at (by omega)]; rfl
          rcases Lib.last_cases s.data.toList k hk0 (by rw [Array.length_toList]; exact hk) with ⟨_, h2⟩ | ⟨h1, _⟩ | ⟨h1, _⟩
          · rw [h2, hg]
          · rw [hg] at h1; omega
          · rw [hg] at h1; omega
        rw [hd] at HD
        have hxl := Lib.hid (list_at (s := s) (i := k - 1) (by omega))
        have hcon := Lib.contains_iff_indexByte C.data.toList (s[k - 1]'(by omega))
        obtain ⟨x, hxe⟩ : ∃ x : UInt8, s[k - 1]'(by omega) = x := ⟨_, rfl⟩
        rw [hxe] at HD hcon hxl hx
        have hback : ((x.toNat : Int)).toNat.toUInt8 = x := by simp
        have HR : ∀ W, Hid (Calls Tryz.prog 89 #[.string C, .int .i32 x.toNat] W fun e w' => e = .returned (.int .i64 (Lib.indexByte C.data.toList x)) ∧ W = w') := fun W => (Tryz.strings_IndexRune_ascii C x.toNat W (by omega) (by omega)).mono fun e w' ⟨h1, h2⟩ => ⟨by rw [h1, hback], h2.symm⟩
        clear hd hxe hback hdat
        have s3 : ((k - 1 : Nat) : Int) = (k : Int) - 1 := by omega
        cases hin : C.data.toList.contains x
        · rw [hin] at hcon
          have hlt : ¬ ((0 : Int) ≤ Lib.indexByte C.data.toList x) := of_decide_eq_false hcon.symm
          have HIN := Lib.hid hin
          clear hcon hin s3
          go_wp2_with (first | (go_at_call 93; refine HD.out.mono ?_; rintro e w2 ⟨rfl, hb2⟩; have HK2 := Lib.hid (HK.out.nil (Keep.of_below hb2))) | (go_at_call 89; refine (HR _).out.mono ?_; rintro e w' ⟨rfl, rfl⟩))
          go_roundw
          case rel => exact ⟨k - 1, by omega, by congr 1; omega, HK2.out, fun j y hj hy => by
            rcases Nat.lt_or_ge j k with h | h
            · obtain rfl : j = k - 1 := by omega
              rw [hxl.out] at hy
              cases hy
              exact HIN.out
            · exact HNO.out j y h hy⟩
          case measure => simp [intOf]; omega
        · rw [hin] at hcon
          have hge : (0 : Int) ≤ Lib.indexByte C.data.toList x := of_decide_eq_true hcon.symm
          have HIN := Lib.hid hin
          clear hcon hin s3
          go_wp2_with (first | (go_at_call 93; refine HD.out.mono ?_; rintro e w2 ⟨rfl, hb2⟩; have HK2 := Lib.hid (HK.out.nil (Keep.of_below hb2))) | (go_at_call 89; refine (HR _).out.mono ?_; rintro e w' ⟨rfl, rfl⟩))
          go_ret
          have hL : lastC C s.data.toList = k := by
            have := lastN_hit (c := C.data.toList.contains) hxl.out HIN.out (fun j y hj hy => HNO.out j y (by omega) hy)
            unfold lastC
            omega
          exact ⟨by rw [hL]; rfl, HK2.out⟩
      · obtain ⟨d1, d2, d3, d4, d5⟩ := last_far s k hk0 hk hx
        have HNO2 : Hid (∀ (j : Nat) y, k - (Lib.decodeLastL (s.data.toList.take k)).2 ≤ j → s.data.toList[j]? = some y → C.data.toList.contains y = false) := fun j y hj hy => by
          rcases Nat.lt_or_ge j k with h | h
          · exact few_not HC.out (d5 j y hj h hy)
          · exact HNO.out j y h hy
        have HR : ∀ W, Hid (Calls Tryz.prog 89 #[.string C, .int .i32 (Lib.decodeLastL (s.data.toList.take k)).1] W fun e w' => e = .returned (.int .i64 (-1)) ∧ Keep [] W w') := fun W => idxr_no C HC.out _ (by omega) d2 W
        clear d5 d2 hdat
        generalize (Lib.decodeLastL (s.data.toList.take k)).1 = r at *
        generalize (Lib.decodeLastL (s.data.toList.take k)).2 = m at *
        go_wp2_with (first | (go_at_call 93; refine HD.out.mono ?_; rintro e w2 ⟨rfl, hb2⟩; have HK2 := Lib.hid (HK.out.nil (Keep.of_below hb2))) | (go_at_call 89; refine (HR _).out.mono ?_; rintro e w' ⟨rfl, hk9⟩))
        go_roundw
        case rel => exact ⟨k - m, by omega, by congr 1; omega, HK2.out.nil hk9, HNO2.out⟩
        case measure => simp [intOf]; omega
    · obtain rfl : k = 0 := by omega
      go_wp2
      go_ret
      have hL : lastC C s.data.toList = 0 := lastN_none (c := C.data.toList.contains) (fun j y hy => HNO.out j y (Nat.zero_le _) hy)
      exact ⟨by rw [hL]; rfl, HK.out⟩

theorem list_one {s : ByteArray} (h : s.size = 1) : s.data.toList = [s[0]'(by omega)] := by
  have hl : s.data.toList.length = 1 := by rw [Array.length_toList]; exact h
  match hh : s.data.toList, hl with
  | [a], _ =>
    have := list_at (s := s) (i := 0) (by omega)
    rw [hh] at this
    simp at this
    rw [this]
set_option maxHeartbeats 1000000 in
set_option maxRecDepth 1000000 in
theorem lany_one (s C : ByteArray) (hC : Few C) (w : World) (hs1 : s.size = 1) :
    Calls Tryz.prog 64 #[.string s, .string C] w fun e w' => e = .returned (.int .i64 ((lastC C s.data.toList : Nat) - 1)) ∧ Keep [] w w' := by
  have hemp : C.toList.isEmpty = false := not_empty (by have := hC.n2; omega)
  have hn2 : ((s.size : Int) == 1) = true := by rw [hs1]; rfl
  have hsz : (0 : Int) < (s.size : Int) := by omega
  have hcon := Lib.contains_iff_indexByte C.data.toList (s[0]'(by omega))
  have HL : Hid (lastC C s.data.toList = if C.data.toList.contains (s[0]'(by omega)) then 1 else 0) := by
    have hout : ∀ (j : Nat) y, 0 < j → s.data.toList[j]? = some y → C.data.toList.contains y = false := fun j y hj hy => by
      have := (List.getElem?_eq_some_iff.1 hy).1
      rw [list_one hs1] at this
      simp at this
      omega
    cases hh : C.data.toList.contains (s[0]'(by omega))
    · exact lastN_none (c := C.data.toList.contains) (fun j y hy => by
        rcases Nat.eq_zero_or_pos j with h | h
        · subst h
          rw [list_at (by omega)] at hy
          cases hy
          exact hh
        · exact hout j y h hy)
    · exact lastN_hit (c := C.data.toList.contains) (i := 0) (list_at (by omega)) hh hout
  have hf := few_not hC (x := s[0]'(by omega))
  have HN : ∀ W, Hid (Calls Tryz.prog 89 #[.string C, .int .i32 65533] W fun e w' => e = .returned (.int .i64 (-1)) ∧ Keep [] W w') := fun W => idxr_err C hC W
  obtain ⟨x, hxe⟩ : ∃ x : UInt8, s[0]'(by omega) = x := ⟨_, rfl⟩
  have hlt := x.toNat_lt
  rw [hxe] at HL hcon hf
  have hback : ((x.toNat : Int)).toNat.toUInt8 = x := by simp
  have HR : x.toNat < 128 → ∀ W, Hid (Calls Tryz.prog 89 #[.string C, .int .i32 x.toNat] W fun e w' => e = .returned (.int .i64 (Lib.indexByte C.data.toList x)) ∧ W = w') := fun h W => (Tryz.strings_IndexRune_ascii C x.toNat W (by omega) (by omega)).mono fun e w' ⟨h1, h2⟩ => ⟨by rw [h1, hback], h2.symm⟩
  have hx0 : s[0]'(by omega) = x := hxe
  clear hback hC
  by_cases h8 : x.toNat < 128
  · have HR2 := HR h8
    cases hin : C.data.toList.contains x
    · rw [hin] at hcon HL
      have hlt2 : ¬ ((0 : Int) ≤ Lib.indexByte C.data.toList x) := of_decide_eq_false hcon.symm
      clear hcon hin HR hf
      go_enter Tryz.func64, Tryz.ntmps64
      go_wp2_with (go_at_call 89; refine (HR2 _).out.mono ?_; rintro e w' ⟨rfl, rfl⟩)
      go_ret
      exact ⟨by rw [HL.out]; rfl, Keep.refl _ _⟩
    · rw [hin] at hcon HL
      have hge : (0 : Int) ≤ Lib.indexByte C.data.toList x := of_decide_eq_true hcon.symm
      clear hcon hin HR hf
      go_enter Tryz.func64, Tryz.ntmps64
      go_wp2_with (go_at_call 89; refine (HR2 _).out.mono ?_; rintro e w' ⟨rfl, rfl⟩)
      go_ret
      exact ⟨by rw [HL.out]; rfl, Keep.refl _ _⟩
  · rw [hf (by omega)] at HL
    clear HR hf hcon
    have h8' : (128 : Int) ≤ (x.toNat : Int) := by omega
    go_enter Tryz.func64, Tryz.ntmps64
    go_wp2_with (go_at_call 89; refine (HN _).out.mono ?_; rintro e w' ⟨rfl, hk⟩)
    go_ret
    exact ⟨by rw [HL.out]; rfl, hk⟩
set_option maxHeartbeats 8000000 in
set_option maxRecDepth 1000000 in
/-- strings.LastIndexAny, in a text of more than 8 bytes. -/
theorem lany_long (s C : ByteArray) (hC : Few C) (w : World) (h8 : 8 < s.size) (hs : s.size ≤ 4000000000) :
    Calls Tryz.prog 64 #[.string s, .string C] w fun e w' => e = .returned (.int .i64 ((lastC C s.data.toList : Nat) - 1)) ∧ Keep [] w w' := by
  have hemp : C.toList.isEmpty = false := not_empty (by have := hC.n2; omega)
  have hn2 : ((s.size : Int) == 1) = false := beq_eq_false_iff_ne.2 (by omega)
  have h8z : decide ((8 : Int) < (s.size : Int)) = true := decide_eq_true (by omega)
  have HU : ∀ W, Hid (Calls Tryz.prog 90 #[.int .i64 s.size] W fun e w' => e = .returned (.bool true) ∧ W = w') := fun W => (Tryz.strings_shouldUseASCIISet s.size W).mono fun e w' ⟨h1, h2⟩ => ⟨by rw [h1, h8z], h2.symm⟩
  have hM := Tryz.strings_makeASCIISet (zero_of_info infoSet).1 C w (by have := hC.n3; omega) (few_j hC)
  have HM := Lib.hid hM
  have hsc : (storeCells ⟨w.heap.size + 1, 0, none⟩ (Lib.setCells C.data.toList).toList 0).run Tryz.prog ((w.alloc (.cells (Lib.setCells C.data.toList) 115)).alloc (.cells (Array.replicate 256 (.bool false)) 115)) = .ok () ((w.alloc (.cells (Lib.setCells C.data.toList) 115)).alloc (.cells (Lib.setCells C.data.toList) 115)) := by
    have := run_storeCells_new (P := Tryz.prog) (w.alloc (.cells (Lib.setCells C.data.toList) 115)) 115 (Array.replicate 256 (.bool false)) (Lib.setCells C.data.toList) (by rw [Lib.setCells_size]; exact (zero_of_info infoSet).2) (by rw [Lib.setCells_size, Array.size_replicate]) (Lib.setCells_one _)
    simpa using this
  have hBS : ∀ x : UInt8, ((w.alloc (.cells (Lib.setCells C.data.toList) 115)).alloc (.cells (Lib.setCells C.data.toList) 115)).cell? ⟨w.heap.size + 1, x.toNat, none⟩ = some (.bool (C.data.toList.contains x)) := fun x => by
    rw [World.cell?_alloc_at _ _ _ _ (by simp), Lib.setCells_at]
  have HBS := Lib.hid hBS
  have hz := (zero_of_info infoSet).1
  have hsz : (Lib.setCells C.data.toList).size = 256 := Lib.setCells_size C.data.toList
  have HKW : Hid (Keep [] w ((w.alloc (.cells (Lib.setCells C.data.toList) 115)).alloc (.cells (Lib.setCells C.data.toList) 115))) := ((Keep.refl [] w).alloc _).alloc _
  clear hM hBS hC
  generalize Lib.setCells C.data.toList = SC at *
  go_enter Tryz.func64, Tryz.ntmps64
  go_wp2_with (first | (go_at_call 90; refine (HU _).out.mono ?_; rintro e w' ⟨rfl, rfl⟩) | (go_at_call 91; refine HM.out.mono ?_; rintro e w' ⟨rfl, hw⟩; rw [hw]))
  generalize (w.alloc (.cells SC 115)).alloc (.cells SC 115) = W2 at *
  clear hsc HM
  have hz0 : (0 : Int) ≤ s.size := by omega
  go_loop [8] (fun i => ∃ k : Nat, k ≤ s.size ∧ i = .int .i64 ((k : Int) - 1) ∧ ∀ (j : Nat) y, k ≤ j → s.data.toList[j]? = some y → C.data.toList.contains y = false) (fun i => (intOf i + 1).toNat)
  case atStart => exact ⟨s.size, Nat.le_refl _, rfl, fun j y h1 h2 => by
    have := (List.getElem?_eq_some_iff.1 h2).1
    rw [Array.length_toList] at this
    exact absurd this (Nat.not_lt.2 h1)⟩
  case round =>
    obtain ⟨k, hk, rfl, hno⟩ := hrel
    have HNO := Lib.hid hno
    clear hno
    by_cases hk0 : 0 < k
    · obtain ⟨k, rfl⟩ : ∃ k', k = k' + 1 := ⟨k - 1, by omega⟩
      have hks : k < s.size := by omega
      have e1 : (((k + 1 : Nat) : Int) - 1) = (k : Int) := by omega
      rw [e1]
      have hxl := Lib.hid (list_at (s := s) (i := k) hks)
      have hc := HBS.out (s[k]'hks)
      cases hin : C.data.toList.contains (s[k]'hks)
      · have HIN := Lib.hid hin
        have HC := Lib.hid (Tryz.asciiSet_contains _ _ false W2 (by rw [← hin]; exact hc))
        clear hc hin e1
        go_wp2_with (go_at_call 92; refine HC.out.mono ?_; rintro e w' ⟨rfl, rfl⟩)
        go_round
        case rel => exact ⟨k, by omega, by go_num, fun j y hj hy => by
          rcases Nat.lt_or_ge k j with h | h
          · exact HNO.out j y h hy
          · obtain rfl : j = k := by omega
            rw [hxl.out] at hy
            cases hy
            exact HIN.out⟩
        case measure => simp [intOf]
      · have HIN := Lib.hid hin
        have HC := Lib.hid (Tryz.asciiSet_contains _ _ true W2 (by rw [← hin]; exact hc))
        clear hc hin e1
        go_wp2_with (go_at_call 92; refine HC.out.mono ?_; rintro e w' ⟨rfl, rfl⟩)
        go_ret
        have hL : lastC C s.data.toList = k + 1 := lastN_hit (c := C.data.toList.contains) hxl.out HIN.out (fun j y hj hy => HNO.out j y (by omega) hy)
        exact ⟨by rw [hL]; simp, HKW.out⟩
    · obtain rfl : k = 0 := by omega
      go_wp2
      go_ret
      have hL : lastC C s.data.toList = 0 := lastN_none (c := C.data.toList.contains) (fun j y hy => HNO.out j y (Nat.zero_le _) hy)
      exact ⟨by rw [hL]; rfl, HKW.out⟩
theorem lany_any (s C : ByteArray) (hC : Few C) (w : World) {B : Nat} (hE : Env B w) (hs : s.size ≤ 4000000000) :
    Calls Tryz.prog 64 #[.string s, .string C] w fun e w' => e = .returned (.int .i64 ((lastC C s.data.toList : Nat) - 1)) ∧ Keep [] w w' := by
  by_cases h1 : s.size = 1
  · exact lany_one s C hC w h1
  · rcases Nat.lt_or_ge 8 s.size with h8 | h8
    · exact lany_long s C hC w h8 hs
    · exact lany_short s C hC w hE h8 h1
end Go.Proofs.YtjldgcpmdcoejaaGreatDoor
