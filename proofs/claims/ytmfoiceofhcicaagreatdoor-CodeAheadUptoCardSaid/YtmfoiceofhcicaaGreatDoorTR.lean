/- Walks: strings.Trim at the blanks, utf.Trim. -/
import Derived.Test.YtmfoiceofhcicaaGreatDoorMU
import Derived.Test.YtmfoiceofhcicaaGreatDoorEV
import Derived.Deep.WholeRow
namespace Go.Proofs.YtmfoiceofhcicaaGreatDoor
open Go.RowKit

def blL : List UInt8 := [9, 10, 13, 32]
theorem blL_is (x : UInt8) : blL.contains x = blI x.toNat := by
  have h := byte_cases (Q := fun n => blL.contains (UInt8.ofNat n.toNat) = blI n) (by decide +kernel) x.toNat (by omega) (by have := x.toNat_lt; omega)
  simpa using h
theorem data_drop (t : ByteArray) : (t.extract 1 t.size).data.toList = t.data.toList.drop 1 := by
  have hs : t.data.toList.length = t.size := by rw [Array.length_toList]; rfl
  simp [ByteArray.data_extract]
  exact List.take_of_length_le (by simp)
theorem data_init (t : ByteArray) : (t.extract 0 (t.size - 1)).data.toList = t.data.toList.dropLast := by
  have hs : t.data.toList.length = t.size := by rw [Array.length_toList]; rfl
  simp [ByteArray.data_extract, List.dropLast_eq_take, hs]
theorem trimL_step (t : ByteArray) (h : 0 < t.size) : trimL t.data.toList = if blI t[0].toNat then trimL (t.extract 1 t.size).data.toList else t.data.toList := by
  rw [data_drop]
  have hs : t.data.toList.length = t.size := by rw [Array.length_toList]; rfl
  have hx : t.data.toList[0]'(by omega) = t[0] := by simp [ByteArray.getElem_eq_getElem_data]
  cases hl : t.data.toList with
  | nil => rw [hl] at hs; simp at hs; omega
  | cons a l =>
    have ha : a = t[0] := by rw [← hx]; simp [hl]
    unfold trimL
    rw [List.dropWhile_cons, ha]
    rfl
theorem trimR_step (t : ByteArray) (h : 0 < t.size) : trimR t.data.toList = if blI (t[t.size - 1]'(by omega)).toNat then trimR (t.extract 0 (t.size - 1)).data.toList else t.data.toList := by
  rw [data_init]
  have hs : t.data.toList.length = t.size := by rw [Array.length_toList]; rfl
  have hx : t.data.toList[t.size - 1]'(by omega) = t[t.size - 1]'(by omega) := by simp [ByteArray.getElem_eq_getElem_data]
  rcases List.eq_nil_or_concat t.data.toList with hl | ⟨l, a, hl⟩
  · rw [hl] at hs; simp at hs; omega
  · have ha : a = t[t.size - 1]'(by omega) := by
      rw [← hx]
      have : t.size - 1 = l.length := by rw [← hs, hl]; simp
      simp [hl, this]
    rw [hl]
    unfold trimR trimL
    rw [List.concat_eq_append, List.reverse_append]
    simp only [List.reverse_cons, List.reverse_nil, List.nil_append, List.singleton_append, List.dropLast_concat]
    rw [List.dropWhile_cons, ha]
    split
    · rfl
    · simp

/-- Block b holds the set of the blanks. -/
def BlSet (w : World) (b : Nat) : Prop := ∀ x : UInt8, w.cell? ⟨b, x.toNat, none⟩ = some (.bool (blI x.toNat))
set_option maxRecDepth 100000 in
set_option maxHeartbeats 400000 in
theorem trimLA_any (s : ByteArray) (b : Nat) (w : World) (hb : BlSet w b) (hs : s.size ≤ 9223372036854775000) :
    Calls Tryz.prog 170 #[.string s, .pointer (some ⟨b, 0, none⟩)] w fun e w' => (∃ t : ByteArray, e = .returned (.string t) ∧ t.data.toList = trimL s.data.toList) ∧ w = w' := by
  have HB := Lib.hid hb
  clear hb
  go_enter Tryz.func170, Tryz.ntmps170
  go_wp2
  go_loop [0] (fun i => ∃ t : ByteArray, i = .string t ∧ t.size ≤ s.size ∧ trimL t.data.toList = trimL s.data.toList) (fun i => match i with | .string t => t.size | _ => 0)
  case atStart => exact ⟨s, rfl, Nat.le_refl _, rfl⟩
  case round =>
    obtain ⟨t, rfl, hts, ht⟩ := hrel
    have HT := Lib.hid ht
    clear ht
    by_cases h0 : 0 < t.size
    · have HS := Lib.hid (trimL_step t h0)
      have hc := HB.out t[0]
      have h0' : (0 : Int) < t.size := by omega
      cases hbl : blI t[0].toNat
      · rw [hbl] at hc
        have HC := Lib.hid (Tryz.asciiSet_contains b t[0] false w hc)
        have HR : Hid (t.data.toList = trimL s.data.toList) := by unfold Hid; rw [← HT.out, HS.out, hbl]; rfl
        clear hc hbl
        go_wp2_with (go_at_call 135; refine HC.out.mono ?_; rintro e w' ⟨rfl, rfl⟩)
        go_ret
        exact ⟨⟨t, rfl, HR.out⟩, rfl⟩
      · rw [hbl] at hc
        have HC := Lib.hid (Tryz.asciiSet_contains b t[0] true w hc)
        have HR : Hid (trimL (t.extract 1 t.size).data.toList = trimL s.data.toList) := by unfold Hid; rw [← HT.out, HS.out, hbl]; rfl
        clear hc hbl
        go_wp2_with (go_at_call 135; refine HC.out.mono ?_; rintro e w' ⟨rfl, rfl⟩)
        go_round
        case rel => exact ⟨_, rfl, by rw [ByteArray.size_extract]; omega, HR.out⟩
        case measure => simp only [ByteArray.size_extract]; omega
    · have HR : Hid (t.data.toList = trimL s.data.toList) := by
        unfold Hid
        have hn : t.data.toList = [] := List.eq_nil_of_length_eq_zero (by rw [Array.length_toList]; show t.size = 0; omega)
        rw [← HT.out, hn]; rfl
      go_wp2
      go_ret
      exact ⟨⟨t, rfl, HR.out⟩, rfl⟩
set_option maxRecDepth 100000 in
set_option maxHeartbeats 400000 in
theorem trimRA_any (s : ByteArray) (b : Nat) (w : World) (hb : BlSet w b) (hs : s.size ≤ 9223372036854775000) :
    Calls Tryz.prog 171 #[.string s, .pointer (some ⟨b, 0, none⟩)] w fun e w' => (∃ t : ByteArray, e = .returned (.string t) ∧ t.data.toList = trimR s.data.toList) ∧ w = w' := by
  have HB := Lib.hid hb
  clear hb
  go_enter Tryz.func171, Tryz.ntmps171
  go_wp2
  go_loop [0] (fun i => ∃ t : ByteArray, i = .string t ∧ t.size ≤ s.size ∧ trimR t.data.toList = trimR s.data.toList) (fun i => match i with | .string t => t.size | _ => 0)
  case atStart => exact ⟨s, rfl, Nat.le_refl _, rfl⟩
  case round =>
    obtain ⟨t, rfl, hts, ht⟩ := hrel
    have HT := Lib.hid ht
    clear ht
    by_cases h0 : 0 < t.size
    · have HS := Lib.hid (trimR_step t h0)
      have hc := HB.out (t[t.size - 1]'(by omega))
      have h0' : (0 : Int) < t.size := by omega
      have h1' : ((t.size : Int) - 1).toNat = t.size - 1 := by omega
      have h2' : (0 : Int) ≤ (t.size : Int) - 1 := by omega
      have h3' : (t.size : Int) - 1 < t.size := by omega
      cases hbl : blI (t[t.size - 1]'(by omega)).toNat
      · rw [hbl] at hc
        have HC := Lib.hid (Tryz.asciiSet_contains b (t[t.size - 1]'(by omega)) false w hc)
        have HR : Hid (t.data.toList = trimR s.data.toList) := by unfold Hid; rw [← HT.out, HS.out, hbl]; rfl
        clear hc hbl
        go_wp2_with (go_at_call 135; refine HC.out.mono ?_; rintro e w' ⟨rfl, rfl⟩)
        go_ret
        exact ⟨⟨t, rfl, HR.out⟩, rfl⟩
      · rw [hbl] at hc
        have HC := Lib.hid (Tryz.asciiSet_contains b (t[t.size - 1]'(by omega)) true w hc)
        have HR : Hid (trimR (t.extract 0 (t.size - 1)).data.toList = trimR s.data.toList) := by unfold Hid; rw [← HT.out, HS.out, hbl]; rfl
        clear hc hbl
        go_wp2_with (go_at_call 135; refine HC.out.mono ?_; rintro e w' ⟨rfl, rfl⟩)
        go_round
        case rel => exact ⟨_, rfl, by rw [ByteArray.size_extract]; omega, HR.out⟩
        case measure => simp only [ByteArray.size_extract]; omega
    · have HR : Hid (t.data.toList = trimR s.data.toList) := by
        unfold Hid
        have hn : t.data.toList = [] := List.eq_nil_of_length_eq_zero (by rw [Array.length_toList]; show t.size = 0; omega)
        rw [← HT.out, hn]; rfl
      go_wp2
      go_ret
      exact ⟨⟨t, rfl, HR.out⟩, rfl⟩

theorem ofList_data {t : ByteArray} {l : List UInt8} (h : t.data.toList = l) : t = ⟨l.toArray⟩ := by
  cases t with
  | mk d => cases d with
    | mk l2 => subst h; rfl
theorem trim_none (s : ByteArray) (h : s.size = 0) : trimB s = s := by
  have hn : s.data.toList = [] := List.eq_nil_of_length_eq_zero (by rw [Array.length_toList]; exact h)
  rw [ofList_data hn]
  rfl
theorem trim_is {s t u : ByteArray} (h1 : t.data.toList = trimR s.data.toList) (h2 : u.data.toList = trimL t.data.toList) : u = ⟨(trimL (trimR s.data.toList)).toArray⟩ := by
  rw [ofList_data h2, h1]
theorem infoSet : (Tryz.prog.info? 200).map (fun i => (i.zero, i.size)) = some (some (.agg (Array.replicate 256 (.bool false))), 256) := by kernel_rfl
set_option maxRecDepth 1000000 in
set_option maxHeartbeats 8000000 in
theorem strim_any (s : ByteArray) (w : World) (hs : s.size ≤ 9223372036854775000) :
    Calls Tryz.prog 145 #[.string s, .string ⟨#[9, 10, 13, 32]⟩] w fun e w' => e = .returned (.string (trimB s)) ∧ Below w.heap.size w w' := by
  by_cases h0 : s.size = 0
  · have he : s.toList.isEmpty = true := empty_iff.2 h0
    have HR : Hid (s = trimB s) := (trim_none s h0).symm
    clear h0
    go_enter Tryz.func145, Tryz.ntmps145
    go_wp2
    go_ret
    exact ⟨by rw [← HR.out]; rfl, Below.refl _ _⟩
  · have he : s.toList.isEmpty = false := not_empty h0
    have he2 : ByteArray.toList ⟨#[9, 10, 13, 32]⟩ = [9, 10, 13, 32] := by rw [ByteArray.toList_eq]
    have hM := Tryz.strings_makeASCIISet (zero_of_info infoSet).1 ⟨#[9, 10, 13, 32]⟩ w (by decide) (by
      intro j b hj
      have : b ∈ ([9, 10, 13, 32] : List UInt8) := List.mem_of_getElem? hj
      simp at this
      rcases this with rfl | rfl | rfl | rfl <;> decide)
    have HM := Lib.hid hM
    have hsc : (storeCells ⟨w.heap.size + 1, 0, none⟩ (Lib.setCells blL).toList 0).run Tryz.prog ((w.alloc (.cells (Lib.setCells blL) 200)).alloc (.cells (Array.replicate 256 (.bool false)) 200)) = .ok () ((w.alloc (.cells (Lib.setCells blL) 200)).alloc (.cells (Lib.setCells blL) 200)) := by
      have := run_storeCells_new (P := Tryz.prog) (w.alloc (.cells (Lib.setCells blL) 200)) 200 (Array.replicate 256 (.bool false)) (Lib.setCells blL) (by rw [Lib.setCells_size]; exact (zero_of_info infoSet).2) (by rw [Lib.setCells_size, Array.size_replicate]) (Lib.setCells_one _)
      simpa using this
    have hBS : BlSet ((w.alloc (.cells (Lib.setCells blL) 200)).alloc (.cells (Lib.setCells blL) 200)) (w.heap.size + 1) := fun x => by
      rw [World.cell?_alloc_at _ _ _ _ (by simp), Lib.setCells_at, blL_is]
    have HBS := Lib.hid hBS
    have hz := (zero_of_info infoSet).1
    have hsz : (Lib.setCells blL).size = 256 := Lib.setCells_size blL
    clear hM hBS
    change Hid (Calls Tryz.prog 134 #[.string ⟨#[9, 10, 13, 32]⟩] w fun e w' => e = .returned (.tuple #[.agg (Lib.setCells blL), .bool true]) ∧ w' = w.alloc (.cells (Lib.setCells blL) 200)) at HM
    generalize Lib.setCells blL = SC at *
    go_enter Tryz.func145, Tryz.ntmps145
    go_wp2_with (go_at_call 134; refine HM.out.mono ?_; rintro e w' ⟨rfl, hw⟩; rw [hw])
    refine (trimRA_any s _ _ HBS.out hs).mono ?_
    rintro e w2 ⟨⟨t, rfl, ht⟩, rfl⟩
    have HT := Lib.hid ht
    clear ht
    have hts : t.size ≤ 9223372036854775000 := by
      have h1 : t.data.toList.length = t.size := by rw [Array.length_toList]; rfl
      have h2 : s.data.toList.length = s.size := by rw [Array.length_toList]; rfl
      have h3 : (trimR s.data.toList).length ≤ s.data.toList.length := by
        unfold trimR trimL
        rw [List.length_reverse]
        exact Nat.le_trans (List.dropWhile_sublist _).length_le (by rw [List.length_reverse]; exact Nat.le_refl _)
      rw [HT.out] at h1
      omega
    go_wp2_with fail
    refine (trimLA_any t _ _ HBS.out hts).mono ?_
    rintro e w2 ⟨⟨u, rfl, hu⟩, rfl⟩
    have HU := Lib.hid hu
    clear hu
    go_wp2
    go_ret
    exact ⟨by rw [trim_is HT.out HU.out]; rfl, ((Below.refl _ _).alloc (Nat.le_refl _) _).alloc (by simp) _⟩
set_option maxRecDepth 100000 in
set_option maxHeartbeats 400000 in
/-- utf.Trim. -/
theorem utrim_any (s : ByteArray) (w : World) (hs : s.size ≤ 9223372036854775000) :
    Calls Tryz.prog 125 #[.string s] w fun e w' => e = .returned (.string (trimB s)) ∧ Below w.heap.size w w' := by
  go_enter Tryz.func125, Tryz.ntmps125
  go_wp2_with (go_at_call 145; refine (strim_any s w hs).mono ?_; rintro e w' ⟨rfl, hb⟩)
  go_ret
  exact ⟨rfl, hb⟩
end Go.Proofs.YtmfoiceofhcicaaGreatDoor
