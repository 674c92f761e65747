/- What the law NumPatWhole stands on: the text of the digits, read and compared. -/
import Derived.Test.YtkkglaglnfebjaaDoorDW
import Derived.Test.YtkkglaglnfebjaaDoorWComp
import Derived.Test.YtkkglaglnfebjaaDoorWDParse
namespace Go.Proofs.YtkkglaglnfebjaaDoor
open Go.RowKit Go.IntWalk

theorem isDg_ok {T : ByteArray} {i : Nat} (h : i < T.size) (hd : isD (T.data.toList[i]'(by rw [txt_len]; exact h))) : isDg T i = true := by
  rw [isDg_in h]
  have e : T.data.toList[i]'(by rw [txt_len]; exact h) = T[i] := rfl
  rw [e] at hd
  unfold isD at hd
  exact decide_eq_true (by omega)
theorem pre_no {l : List UInt8} (h : ∀ b, l.head? = some b → b ≠ 45) : Lib.hasPrefix l [45] = false := by
  match l, h with
  | [], _ => rfl
  | b :: r, h =>
    have hb := h b rfl
    simp [Lib.hasPrefix, List.isPrefixOf]
    exact fun e => hb e.symm
theorem isD_ne45 {b : UInt8} (h : isD b) : b ≠ 45 := by
  rintro rfl
  unfold isD at h
  revert h; decide
theorem get_list (T : ByteArray) (i : Nat) (h : i < T.size) : T[i] = T.data.toList[i]'(by rw [txt_len]; exact h) := rfl
/-- Parse of digits, a point, digits. -/
theorem parse_text (A Yl : List UInt8) (hA : CanT A) (hY : okT Yl) (hA4 : A.length ≤ 500) (hY4 : Yl.length ≤ 100) (T : ByteArray) (hT : (Yl = [] ∧ T.data.toList = A) ∨ (Yl ≠ [] ∧ T.data.toList = A ++ 46 :: Yl)) (W : World) :
    Calls Tryd.prog 34 #[.string T] W fun e w' => e = .returned (.tuple #[.agg #[.bool false, .string (madeD (A ++ Yl)), .int .i64 (madeS (A ++ Yl) Yl.length)], .agg #[.int .i64 (madeE (A ++ Yl)), .int .i64 0]]) ∧ Keep [] W w' := by
  have hpos : 1 ≤ A.length := List.length_pos_iff.2 hA.ne
  have hsz : T.data.toList.length = T.size := txt_len T
  have hhead : ∀ b, T.data.toList.head? = some b → b ≠ 45 := by
    intro b hb
    match A, hA with
    | [], hA => exact absurd rfl hA.ne
    | c :: r, hA =>
      have : T.data.toList.head? = some c := by
        rcases hT with ⟨_, e⟩ | ⟨_, e⟩ <;> rw [e] <;> rfl
      rw [this] at hb
      rw [← Option.some.inj hb]
      exact isD_ne45 (hA.ok c List.mem_cons_self)
  have hpre := pre_no hhead
  have hAi : ∀ i (h : i < A.length), ∃ hl, T.data.toList[i]'hl = A[i] := by
    intro i h
    rcases hT with ⟨_, e⟩ | ⟨_, e⟩
    · exact ⟨by rw [e]; exact h, by simp [e]⟩
    · exact ⟨by rw [e, List.length_append]; omega, by simp [e, List.getElem_append_left h]⟩
  have h1 : ∀ i, i < A.length → isDg T i = true := fun i hi => by
    obtain ⟨hl, he⟩ := hAi i hi
    refine isDg_ok (by rw [← hsz]; exact hl) ?_
    rw [he]
    exact hA.ok _ (List.getElem_mem _)
  have hz : ∀ h : 0 < T.size, (T[0].toNat : Int) = 48 → A.length = 1 := fun h h48 => by
    obtain ⟨hl, he⟩ := hAi 0 (by omega)
    rw [get_list T 0 h, he] at h48
    have hb : A[0] = 48 := UInt8.toNat_inj.1 (by show A[0].toNat = 48; omega)
    have := hA.hd (by rw [List.head?_eq_getElem?, List.getElem?_eq_getElem (by omega), hb])
    rw [this]; rfl
  rcases hT with ⟨hy, e⟩ | ⟨hy, e⟩
  · subst hy
    rw [List.append_nil]
    have hN : T.size = A.length := by rw [← hsz, e]
    refine dparse_plain W T A.length hN hpos (by omega) h1 hz hpre _ _ _ fun W' => ?_
    have := made_both W' T 0 (by omega) (by omega)
    rw [e] at this
    exact this
  · have hyl : 1 ≤ Yl.length := List.length_pos_iff.2 hy
    have hN : T.size = A.length + 1 + Yl.length := by rw [← hsz, e, List.length_append, List.length_cons]; omega
    have hDl : (T.extract 0 A.length ++ T.extract (A.length + 1) T.size).data.toList = A ++ Yl := by
      rw [txt_cat, ext_list, ext_list, e, hN]
      rw [List.take_left, List.drop_zero]
      congr 1
      rw [List.take_of_length_le (by rw [List.length_append, List.length_cons]; omega), List.drop_append, List.drop_of_length_le (by omega), List.nil_append, show A.length + 1 - A.length = 1 by omega]; rfl
    refine dparse_point W T A.length hpos (by omega) (by omega) h1 hz (fun h => ?_) (fun i hi hiN => ?_) hpre _ _ _ _ Yl.length rfl (by omega) fun W' => ?_
    · rw [get_list T _ h]
      have : T.data.toList[A.length]'(by rw [hsz]; exact h) = 46 := by simp [e]
      rw [this]; rfl
    · refine isDg_ok hiN ?_
      have h46 : T.data.toList[i]'(by rw [hsz]; exact hiN) ∈ Yl := by
        have e1 : T.data.toList[i]'(by rw [hsz]; exact hiN) = (A ++ 46 :: Yl)[i]'(by rw [← e, hsz]; exact hiN) := by simp [e]
        rw [e1, List.getElem_append_right (by omega)]
        obtain ⟨q, hq⟩ : ∃ q, i - A.length = q + 1 := ⟨i - A.length - 1, by omega⟩
        simp only [hq, List.getElem_cons_succ]
        exact List.getElem_mem _
      exact hY _ h46
    · have := made_both W' (T.extract 0 A.length ++ T.extract (A.length + 1) T.size) (Yl.length : Int) (by rw [← txt_len, hDl, List.length_append]; omega) (by omega)
      rw [hDl] at this
      exact this
theorem zsB_list (n : Nat) : (zsB n).data.toList = zs n := by unfold zsB zs; exact Array.toList_replicate
/-- The two are equal. -/
theorem cmp_pack (mi mf xf sc : Nat) (l : List UInt8) (hcan : CanT l) (hl : l.length ≤ 400) (hsc : sc ≤ 400) (hY4 : (fillF mf (fracD mf xf sc l)).length ≤ 100) (Yl Gl : List UInt8) (hYl : Yl = fillF mf (fracD mf xf sc l)) (hYo : okT Yl) (hWo : okT (fillW mi (wholeD xf sc l)))
    (hG : Gl = canon (canon (fillW mi (wholeD xf sc l)) ++ Yl)) (hg : Gl.length ≤ 400) (W : World) :
    Calls Tryd.prog 35 #[.agg #[.bool false, .string ⟨Gl.toArray⟩, .int .i64 Yl.length], .agg #[.bool false, .string ⟨(rndL xf sc l).toArray⟩, .int .i64 (rndS xf sc)]] W fun e w' => e = .returned (.tuple #[.int .i64 0, .int .i64 0]) ∧ Keep [] W w' := by
  obtain ⟨rc, rl, rs⟩ := rnd_can xf sc l hcan hl hsc
  have gc : CanT Gl := by
    rw [hG]
    apply canon_can
    intro b hb
    rcases List.mem_append.1 hb with hb | hb
    · exact (canon_can hWo).ok b hb
    · exact hYo b hb
  have hne := num_eq mi mf xf sc l _ rfl
  rw [← hYl, ← hG] at hne
  have hY5 : Yl.length ≤ 100 := by rw [hYl]; exact hY4
  obtain ⟨M, hM⟩ : ∃ M, M = max Yl.length (rndS xf sc) := ⟨_, rfl⟩
  rw [← hM] at hne
  refine compare_eq W ⟨Gl.toArray⟩ ⟨(rndL xf sc l).toArray⟩ Yl.length (rndS xf sc) (gc.decB hg _ (by omega) (by omega)) (rc.decB rl _ (by omega) (by omega)) hg rl (by omega) rs M _ hM rfl ?_ ?_
  · apply txt_ext
    unfold lnB scB
    rw [txt_cat, txt_cat, txt_cat, txt_cat, zsB_list, zsB_list, zsB_list, zsB_list]
    have hs1 : ((⟨Gl.toArray⟩ : ByteArray) ++ zsB (M - Yl.length)).size = (Gl ++ zs (M - Yl.length)).length := by
      rw [ByteArray.size_append, zsB_size, List.length_append]
      unfold zs
      rw [List.length_replicate]; rfl
    have hs2 : ((⟨(rndL xf sc l).toArray⟩ : ByteArray) ++ zsB (M - rndS xf sc)).size = (rndL xf sc l ++ zs (M - rndS xf sc)).length := by
      rw [ByteArray.size_append, zsB_size, List.length_append]
      unfold zs
      rw [List.length_replicate]; rfl
    rw [hs1, hs2]
    exact pad_eq _ _ _ hne (by omega) (by omega)
  · have h1 := can_zero gc (M - Yl.length)
    have h2 := can_zero rc (M - rndS xf sc)
    rw [hne] at h1
    unfold signB
    have h3 : Gl = [48] ↔ rndL xf sc l = [48] := h1.symm.trans h2
    by_cases hz : Gl = [48]
    · rw [if_pos hz, if_pos (h3.1 hz)]
    · rw [if_neg hz, if_neg (fun h => hz (h3.2 h))]
end Go.Proofs.YtkkglaglnfebjaaDoor
