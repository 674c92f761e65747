/- Walks: dress of messages: a text as it stands in a message. -/
import Derived.Test.YtjldgcpmdcoejaaGreatDoorDS
import Derived.Lib.Replace
import Derived.Laws.Concat
import Derived.Deep.RegionHeld3
namespace Go.Proofs.YtjldgcpmdcoejaaGreatDoor
open Go.RowKit

theorem dbl_cons (b : UInt8) (l : List UInt8) : dbl (b :: l) = (if b = 39 then [39, 39] else [b]) ++ dbl l := rfl
theorem dbl_append (a b : List UInt8) : dbl (a ++ b) = dbl a ++ dbl b := by unfold dbl; exact List.flatMap_append
theorem replaceK_dbl : ∀ (l : List UInt8) (k : Nat), Lib.count l [39] ≤ k → Lib.replaceK [39] [39, 39] k l = dbl l
  | [], k, _ => by
    cases k with
    | zero => rfl
    | succ k => rw [Lib.replaceK, if_pos (by decide)]; rfl
  | b :: l, k, h => by
    by_cases hb : b = 39
    · subst hb
      rw [Lib.count_cons_eq] at h
      obtain ⟨k, rfl⟩ : ∃ k', k = k' + 1 := ⟨k - 1, by omega⟩
      have h0 : Lib.index (39 :: l) [39] = ((0 : Nat) : Int) := by rw [Lib.index_one]; rfl
      rw [Lib.replaceK_hit _ _ _ _ 0 h0, dbl_cons, if_pos rfl]
      simp only [List.take_zero, List.nil_append, List.length_singleton, Nat.zero_add, List.drop_succ_cons, List.drop_zero]
      rw [replaceK_dbl l k (by omega)]
    · have hc : Lib.count (b :: l) [39] = Lib.count l [39] := Lib.count_cons_ne b 39 l hb
      rw [hc] at h
      have hbe : (b == (39 : UInt8)) = false := by simpa using hb
      rw [dbl_cons, if_neg hb]
      cases k with
      | zero =>
        have := replaceK_dbl l 0 h
        rw [← this]; rfl
      | succ k =>
        have ih := replaceK_dbl l (k + 1) h
        rw [← ih]
        have hge := Lib.index_ge l [39]
        by_cases hm : Lib.index l [39] = -1
        · have h1 : Lib.index (b :: l) [39] = -1 := by
            rw [Lib.index_one, Lib.indexByte, hbe] at *
            rw [if_neg (by simp), hm]
            rfl
          rw [Lib.replaceK, if_pos (by rw [h1]; rfl), Lib.replaceK, if_pos (by rw [hm]; rfl)]
          rfl
        · obtain ⟨i, hi⟩ : ∃ i : Nat, Lib.index l [39] = i := ⟨(Lib.index l [39]).toNat, by omega⟩
          have h1 : Lib.index (b :: l) [39] = ((i + 1 : Nat) : Int) := by
            rw [Lib.index_one] at hi ⊢
            rw [Lib.indexByte, hbe, if_neg (by simp), hi, if_neg (by simp)]
            rfl
          rw [Lib.replaceK_hit _ _ _ _ _ h1, Lib.replaceK_hit _ _ _ _ _ hi]
          rfl
theorem replaceAll_dbl (l : List UInt8) : Lib.replaceAll l [39] [39, 39] = dbl l := by
  unfold Lib.replaceAll Lib.replace
  rw [if_neg (by decide)]
  exact replaceK_dbl l _ (by unfold Lib.replaceNum; rw [if_pos (.inl (by omega))]; exact Nat.le_refl _)
theorem dbl_le (l : List UInt8) : (dbl l).length ≤ 2 * l.length := by
  induction l with
  | nil => exact Nat.le_refl _
  | cons b l ih => rw [dbl_cons]; split <;> simp <;> omega
theorem size_len (s : ByteArray) : s.data.toList.length = s.size := by rw [Array.length_toList]; rfl
def dblB (s : ByteArray) : ByteArray := ⟨(dbl s.data.toList).toArray⟩
theorem dblB_size (s : ByteArray) : (dblB s).size ≤ 2 * s.size := by
  have := dbl_le s.data.toList
  rw [size_len] at this
  show (dbl s.data.toList).toArray.size ≤ _
  simpa using this
set_option maxRecDepth 100000 in
set_option maxHeartbeats 400000 in
/-- dress$1: each quote doubled. -/
theorem double_any {B : Nat} (s : ByteArray) (w : World) (hE : EnvM B w) (hs : s.size ≤ 1000000000) :
    Calls Tryz.prog 61 #[.string s] w fun e w' => e = .returned (.string (dblB s)) ∧ Keep [] w w' := by
  obtain ⟨m, hm⟩ := hE.vars.ml
  have hc : Lib.countB s ⟨#[39]⟩ ≤ s.size + 1 := by
    have := Lib.count_le s.data.toList [39]
    rw [size_len] at this
    exact this
  have hR := Tryz.strings_ReplaceAll s ⟨#[39]⟩ ⟨#[39, 39]⟩ m w (by omega) hm (by decide) (by show _ + _ * 2 ≤ _; omega)
  have HR : Hid (Calls Tryz.prog 62 #[.string s, .string ⟨#[39]⟩, .string ⟨#[39, 39]⟩] w fun e w' => e = .returned (.string (dblB s)) ∧ Keep [] w w') := hR.mono fun e w' ⟨h1, h2⟩ => ⟨by
    rw [h1]
    show Ending.returned (.string ⟨(Lib.replaceAll s.data.toList [39] [39, 39]).toArray⟩) = _
    rw [replaceAll_dbl]; rfl, Keep.of_below h2⟩
  clear hR hm hE hc
  go_enter Tryz.func61, Tryz.ntmps61
  go_wp2_with (go_at_call 62; refine HR.out.mono ?_; rintro e w' ⟨rfl, hk⟩)
  go_ret
  exact ⟨rfl, hk⟩

/-! ### where special bytes stand -/
def specC (h : Bool) : ByteArray := if h then ⟨#[123, 125, 35]⟩ else ⟨#[123, 125]⟩
theorem specC_few (h : Bool) : Few (specC h) := by
  cases h
  · exact ⟨fun b hb => by
      have : b ∈ ([123, 125] : List UInt8) := hb
      simp at this
      rcases this with rfl | rfl <;> decide, by decide, by decide⟩
  · exact ⟨fun b hb => by
      have : b ∈ ([123, 125, 35] : List UInt8) := hb
      simp at this
      rcases this with rfl | rfl | rfl <;> decide, by decide, by decide⟩
theorem specC_is (h : Bool) : (specC h).data.toList.contains = specB h := by
  funext b
  cases h
  · show ([123, 125] : List UInt8).contains b = _
    rw [Bool.eq_iff_iff]; simp [specB]
  · show ([123, 125, 35] : List UInt8).contains b = _
    rw [Bool.eq_iff_iff]; simp [specB, or_assoc]
theorem indexAny_is : ∀ (l C : List UInt8), Lib.indexAny l C = if l.any C.contains then (l.findIdx C.contains : Int) else -1
  | [], _ => rfl
  | b :: l, C => by
    rw [Lib.indexAny, indexAny_is l C, List.any_cons, List.findIdx_cons]
    cases hb : C.contains b
    · cases ha : l.any C.contains
      · simp
      · simp
    · simp

theorem Keep.undr {bs : List Nat} {w w' : World} {k : Nat} (h : Keep bs (w.drewN k) w') : Keep bs w w' := ⟨h.os, h.tape, h.output, h.size, h.block⟩
theorem lastN_le (c : UInt8 → Bool) (l : List UInt8) : lastN c l ≤ l.length := by unfold lastN; omega
theorem first_last {c : UInt8 → Bool} {l : List UInt8} (h : l.any c = true) : l.findIdx c < lastN c l := by
  obtain ⟨x, hx, hc⟩ := List.any_eq_true.1 h
  have hf : l.findIdx c < l.length := List.findIdx_lt_length.2 ⟨x, hx, hc⟩
  have hr : l.reverse.findIdx c < l.reverse.length := List.findIdx_lt_length.2 ⟨x, List.mem_reverse.2 hx, hc⟩
  rcases Nat.lt_or_ge (l.findIdx c) (lastN c l) with h1 | h1
  · exact h1
  · exfalso
    unfold lastN at h1
    have hp := List.findIdx_getElem (w := hr)
    rw [List.getElem_reverse] at hp
    rw [List.length_reverse] at hr
    have := List.not_of_lt_findIdx (p := c) (xs := l) (i := l.length - 1 - l.reverse.findIdx c) (by omega)
    simp [hp] at this
set_option maxRecDepth 100000 in
set_option maxHeartbeats 2000000 in
/-- dress. -/
theorem dress_any {B : Nat} (s : ByteArray) (h : Bool) (w : World) (hE : EnvM B w) (hs : s.size ≤ 1000000000) :
    Calls Tryz.prog 31 #[.string s, .bool h] w fun e w' => e = .returned (.string ⟨(dressL h s.data.toList).toArray⟩) ∧ Keep [] w w' := by
  have HE := Lib.hid hE
  have HI : ∀ W, Hid (Calls Tryz.prog 63 #[.string s, .string (specC h)] W fun e w' => e = .returned (.int .i64 (if s.data.toList.any (specB h) then (s.data.toList.findIdx (specB h) : Int) else -1)) ∧ Keep [] W w') := fun W => (iany_any s (specC h) (specC_few h) W (by omega)).mono fun e w' ⟨h1, h2⟩ => ⟨by rw [h1, indexAny_is, specC_is], h2⟩
  have HL : ∀ W, EnvM B W → Hid (Calls Tryz.prog 64 #[.string s, .string (specC h)] W fun e w' => e = .returned (.int .i64 ((lastN (specB h) s.data.toList : Nat) - 1)) ∧ Keep [] W w') := fun W hW => (lany_any s (specC h) (specC_few h) W hW.env (by omega)).mono fun e w' ⟨h1, h2⟩ => ⟨by rw [h1]; unfold lastC lastN; rw [specC_is], h2⟩
  have HD : ∀ (t : ByteArray) W, EnvM B W → t.size ≤ 1000000000 → Hid (Calls Tryz.prog 61 #[.string t] W fun e w' => e = .returned (.string (dblB t)) ∧ Keep [] W w') := fun t W hW ht => double_any t W hW ht
  have hln := lastN_le (specB h) s.data.toList
  rw [size_len] at hln
  by_cases ha : s.data.toList.any (specB h) = true
  · have hfl := first_last ha
    rw [if_pos ha] at HI
    have HR : Hid (dressL h s.data.toList = dbl (s.data.toList.take (s.data.toList.findIdx (specB h))) ++ [39] ++ dbl ((s.data.toList.take (lastN (specB h) s.data.toList)).drop (s.data.toList.findIdx (specB h))) ++ [39] ++ dbl (s.data.toList.drop (lastN (specB h) s.data.toList))) := by unfold Hid dressL; rw [if_pos ha]
    clear ha hE
    generalize s.data.toList.findIdx (specB h) = a at *
    generalize lastN (specB h) s.data.toList = b at *
    have e1 : ((b : Int) - 1) + 1 = b := by omega
    have d1 := dblB_size (s.extract 0 a)
    have d2 := dblB_size (s.extract a b)
    have d3 := dblB_size (s.extract b s.size)
    rw [ByteArray.size_extract] at d1 d2 d3
    obtain ⟨X, hX⟩ : ∃ X, dblB (s.extract 0 a) = X := ⟨_, rfl⟩
    obtain ⟨Y, hY⟩ : ∃ Y, dblB (s.extract a b) = Y := ⟨_, rfl⟩
    obtain ⟨Z, hZ⟩ : ∃ Z, dblB (s.extract b s.size) = Z := ⟨_, rfl⟩
    have HDX := fun W (hW : EnvM B W) => HD (s.extract 0 a) W hW (by rw [ByteArray.size_extract]; omega)
    have HDY := fun W (hW : EnvM B W) => HD (s.extract a b) W hW (by rw [ByteArray.size_extract]; omega)
    have HDZ := fun W (hW : EnvM B W) => HD (s.extract b s.size) W hW (by rw [ByteArray.size_extract]; omega)
    rw [hX] at HDX d1
    rw [hY] at HDY d2
    rw [hZ] at HDZ d3
    have hq : (⟨#[39]⟩ : ByteArray).size = 1 := rfl
    have HA1 : ∀ W, (Op.stringOp .add X ⟨#[39]⟩).run Tryz.prog W = .ok (.string (X ++ ⟨#[39]⟩)) W := fun W => run_string_add_sum W _ _ (by rw [hq]; omega)
    have hX1 : (X ++ (⟨#[39]⟩ : ByteArray)).size ≤ 4000000000 := by rw [ByteArray.size_append, hq]; omega
    obtain ⟨X1, hX1e⟩ : ∃ X1, X ++ (⟨#[39]⟩ : ByteArray) = X1 := ⟨_, rfl⟩
    rw [hX1e] at HA1 hX1
    have HA2 : ∀ W, (Op.stringOp .add X1 Y).run Tryz.prog W = .ok (.string (X1 ++ Y)) W := fun W => run_string_add_sum W _ _ (by omega)
    have hX2 : (X1 ++ Y).size ≤ 8000000000 := by rw [ByteArray.size_append]; omega
    obtain ⟨X2, hX2e⟩ : ∃ X2, X1 ++ Y = X2 := ⟨_, rfl⟩
    rw [hX2e] at HA2 hX2
    have HA3 : ∀ W, (Op.stringOp .add X2 ⟨#[39]⟩).run Tryz.prog W = .ok (.string (X2 ++ ⟨#[39]⟩)) W := fun W => run_string_add_sum W _ _ (by rw [hq]; omega)
    have hX3 : (X2 ++ (⟨#[39]⟩ : ByteArray)).size ≤ 9000000000 := by rw [ByteArray.size_append, hq]; omega
    obtain ⟨X3, hX3e⟩ : ∃ X3, X2 ++ (⟨#[39]⟩ : ByteArray) = X3 := ⟨_, rfl⟩
    rw [hX3e] at HA3 hX3
    have HA4 : ∀ W, (Op.stringOp .add X3 Z).run Tryz.prog W = .ok (.string (X3 ++ Z)) W := fun W => run_string_add_sum W _ _ (by omega)
    have HR2 : Hid (X3 ++ Z = ⟨(dressL h s.data.toList).toArray⟩) := by
      unfold Hid
      rw [HR.out, ← hX3e, ← hX2e, ← hX1e, ← hX, ← hY, ← hZ]
      apply ByteArray.ext
      apply Array.toList_inj.1
      have g1 : (s.extract 0 a).data.toList = s.data.toList.take a := by simp [ByteArray.data_extract]
      have g2 : (s.extract a b).data.toList = (s.data.toList.take b).drop a := by simp [ByteArray.data_extract, List.extract_eq_drop_take']
      have g3 : (s.extract b s.size).data.toList = s.data.toList.drop b := by
        simp only [ByteArray.data_extract, Array.toList_extract, List.extract_eq_drop_take']
        rw [List.take_of_length_le (by rw [size_len]; omega)]
      simp only [ByteArray.data_append, Array.toList_append, dblB, g1, g2, g3]
    clear HR hX3e hX2e hX1e hX hY hZ HD d1 d2 d3 hq hX1 hX2 hX3
    have hab : (a : Int) ≤ b := by omega
    have hbs : (b : Int) ≤ s.size := by omega
    have has : (a : Int) ≤ s.size := by omega
    cases h
    all_goals
      go_enter Tryz.func31, Tryz.ntmps31
      go_wp2_with fail
      refine (HI _).out.mono ?_
      rintro e w1 ⟨rfl, hk1⟩
      have HE1 := Lib.hid (HE.out.keep hk1 (by simp))
      go_wp2_with fail
      refine (HL _ HE1.out).out.mono ?_
      rintro e w2 ⟨rfl, hk2⟩
      have HE2 := Lib.hid (HE1.out.keep hk2 (by simp))
      have HK2 := Lib.hid (hk1.nil hk2)
      clear hk1 hk2 HE1 HI HL
      go_wp2_with fail
      go_region_with (first | (go_at_call_of 61 (Value.string (s.extract 0 a)); refine (HDX _ (by exact HE2.out.drewN 1)).out.mono ?_; rintro e w3 ⟨rfl, hk3⟩; have HE3 := Lib.hid ((HE2.out.drewN 1).keep hk3 (by simp)); have HK3 := Lib.hid (HK2.out.nil (Keep.undr (k := 1) hk3)); clear hk3) | (go_at_call_of 61 (Value.string (s.extract a b)); refine (HDY _ HE3.out).out.mono ?_; rintro e w4 ⟨rfl, hk4⟩; have HE4 := Lib.hid (HE3.out.keep hk4 (by simp)); have HK4 := Lib.hid (HK3.out.nil hk4); clear hk4) | (go_at_call_of 61 (Value.string (s.extract b s.size)); refine (HDZ _ HE4.out).out.mono ?_; rintro e w5 ⟨rfl, hk5⟩; have HK5 := Lib.hid (HK4.out.nil hk5); clear hk5))
      go_wp2
      go_ret
      exact ⟨by rw [← HR2.out]; rfl, HK5.out⟩
  · rw [if_neg ha] at HI
    have HR : Hid (⟨(dressL h s.data.toList).toArray⟩ = dblB s) := by unfold Hid dressL; rw [if_neg ha]; rfl
    clear ha hE
    generalize lastN (specB h) s.data.toList = b at *
    have HD1 := fun W (hW : EnvM B W) => HD s W hW hs
    clear HD
    cases h
    all_goals
      go_enter Tryz.func31, Tryz.ntmps31
      go_wp2_with fail
      refine (HI _).out.mono ?_
      rintro e w1 ⟨rfl, hk1⟩
      have HE1 := Lib.hid (HE.out.keep hk1 (by simp))
      go_wp2_with fail
      refine (HL _ HE1.out).out.mono ?_
      rintro e w2 ⟨rfl, hk2⟩
      have HE2 := Lib.hid (HE1.out.keep hk2 (by simp))
      have HK2 := Lib.hid (hk1.nil hk2)
      clear hk1 hk2 HE1 HI HL
      go_wp2_with (go_at_call 61; refine (HD1 _ HE2.out).out.mono ?_; rintro e w3 ⟨rfl, hk3⟩)
      go_ret
      exact ⟨by rw [HR.out]; rfl, HK2.out.nil hk3⟩
end Go.Proofs.YtjldgcpmdcoejaaGreatDoor
