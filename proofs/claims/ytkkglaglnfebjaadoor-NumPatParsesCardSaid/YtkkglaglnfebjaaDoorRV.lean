/- Plain: where a text is right from a place on, and what stands there; a quoted text byte by byte. No program. -/
import Derived.Test.YtkkglaglnfebjaaDoorND
namespace Go.Proofs.YtkkglaglnfebjaaDoor
open Go.RowKit

/-- The text is right from this place on. -/
def okAt (s : ByteArray) (p : Nat) : Prop := brkAt s p < 0
theorem okAt_neg {s : ByteArray} {p : Nat} (h : okAt s p) (hp : p < s.size) : 0 ≤ (formD s p).1 := by
  by_cases hn : (formD s p).1 < 0
  · have := brkAt_bad s p hp hn
    unfold okAt at h
    omega
  · omega
theorem okAt_next {s : ByteArray} {p : Nat} (h : okAt s p) (hp : p < s.size) : okAt s (p + (formD s p).2) := by
  have h0 := okAt_neg h hp
  have := brkAt_next s p hp (by omega)
  unfold okAt at *
  rw [← this]
  exact h
theorem okAt_end {s : ByteArray} {p : Nat} (h : s.size ≤ p) : okAt s p := by unfold okAt; rw [brkAt_end s p h]; decide
theorem form_ways (s : ByteArray) (p : Nat) (h : 0 ≤ (formD s p).1) : ((s.get! p).toNat < 128 ∧ formD s p = (((s.get! p).toNat : Int), 1)) ∨
    (194 ≤ (s.get! p).toNat ∧ 128 ≤ (formD s p).1 ∧ 2 ≤ (formD s p).2 ∧ ∀ j, 1 ≤ j → j < (formD s p).2 → 128 ≤ (s.get! (p + j)).toNat) := by
  by_cases h0 : (s.get! p).toNat < 128
  · exact .inl ⟨h0, formD_one h0⟩
  · right
    rw [formD_N] at h ⊢
    have hj : ∀ (n : Nat), n ≤ 4 → (1 < n → (s.get! (p + 1)).toNat / 64 = 2) → (2 < n → (s.get! (p + 2)).toNat / 64 = 2) → (3 < n → (s.get! (p + 3)).toNat / 64 = 2) → ∀ j, 1 ≤ j → j < n → 128 ≤ (s.get! (p + j)).toNat := by
      intro n hn g1 g2 g3 j h1 h2
      have : j = 1 ∨ j = 2 ∨ j = 3 := by omega
      rcases this with rfl | rfl | rfl
      · have := g1 (by omega); omega
      · have := g2 (by omega); omega
      · have := g3 (by omega); omega
    generalize (s.get! p).toNat = b0, (s.get! (p + 1)).toNat = b1, (s.get! (p + 2)).toNat = b2, (s.get! (p + 3)).toNat = b3 at *
    unfold formN at h ⊢
    repeat' split at h
    all_goals simp only at h
    all_goals first | (exfalso; omega) | skip
    · rw [if_neg (by omega), if_neg (by omega), if_pos (by omega), if_neg (by omega), if_neg (by omega)]
      exact ⟨by omega, by simp only; omega, by simp only; omega, hj 2 (by omega) (by omega) (by omega) (by omega)⟩
    · rw [if_neg (by omega), if_neg (by omega), if_neg (by omega), if_pos (by omega), if_neg (by omega), if_neg (by omega), if_neg (by omega), if_neg (by omega)]
      exact ⟨by omega, by simp only; omega, by simp only; omega, hj 3 (by omega) (by omega) (by omega) (by omega)⟩
    · rw [if_neg (by omega), if_neg (by omega), if_neg (by omega), if_neg (by omega), if_pos (by omega), if_neg (by omega), if_neg (by omega), if_neg (by omega), if_neg (by omega), if_neg (by omega)]
      exact ⟨by omega, by simp only; omega, by simp only; omega, hj 4 (by omega) (by omega) (by omega) (by omega)⟩
/-- The currency sign stands there. -/
theorem form_money (s : ByteArray) (p : Nat) : (p < s.size ∧ (formD s p).1 = 164) ↔ (isB s p 194 ∧ isB s (p + 1) 164) := by
  constructor
  · rintro ⟨hp, h⟩
    rw [formD_N] at h
    unfold isB
    generalize (s.get! p).toNat = b0, (s.get! (p + 1)).toNat = b1, (s.get! (p + 2)).toNat = b2, (s.get! (p + 3)).toNat = b3 at *
    unfold formN at h
    repeat' split at h
    all_goals simp only at h
    all_goals omega
  · rintro ⟨⟨h1, h2⟩, h3, h4⟩
    refine ⟨h1, ?_⟩
    rw [formD_two (by omega) (by omega) (by omega), h2, h4]
    rfl
theorem form_money2 {s : ByteArray} {p : Nat} (h : isB s p 194 ∧ isB s (p + 1) 164) : formD s p = (164, 2) := by
  obtain ⟨⟨h1, h2⟩, h3, h4⟩ := h
  rw [formD_two (by omega) (by omega) (by omega), h2, h4]
  rfl
/-- Behind a byte below 128 the text is right too. -/
theorem okAt_ascii {s : ByteArray} : ∀ (f p j : Nat), j < p + f → okAt s p → p ≤ j → j < s.size → (s.get! j).toNat < 128 → okAt s (j + 1)
  | 0, p, j, hf, _, hpj, _, _ => by omega
  | f + 1, p, j, hf, h, hpj, hj, hb => by
    have h0 := okAt_neg h (by omega)
    have hn := okAt_next h (by omega)
    rcases form_ways s p h0 with ⟨h1, h2⟩ | ⟨h1, h2, h3, h4⟩
    · rw [h2] at hn
      by_cases he : p = j
      · subst he; exact hn
      · exact okAt_ascii f (p + 1) j (by omega) hn (by omega) hj hb
    · by_cases hlt : j < p + (formD s p).2
      · by_cases he : p = j
        · subst he; omega
        · have := h4 (j - p) (by omega) (by omega)
          rw [show p + (j - p) = j by omega] at this
          omega
      · exact okAt_ascii f (p + (formD s p).2) j (by omega) hn (by omega) hj hb
theorem okAt_byte {s : ByteArray} {p b : Nat} (h : okAt s p) (hb : isB s p b) (hlt : b < 128) : okAt s (p + 1) :=
  okAt_ascii 1 p p (by omega) h (Nat.le_refl _) hb.1 (by have := hb.2; omega)

/-! ### a quoted text, byte by byte -/
theorem apos_end (s : ByteArray) (q : Nat) (h : s.size ≤ q) : aposAt s q = -1 := by
  have h1 := aposAt_ge s q
  by_cases h0 : 0 ≤ aposAt s q
  · have := aposAt_lt s q h0; omega
  · omega
theorem ext_drop (s : ByteArray) (q : Nat) : (s.extract q s.size).data.toList = s.data.toList.drop q := by
  simp only [ByteArray.data_extract, Array.toList_extract, List.extract_eq_take_drop]
  rw [List.take_of_length_le]
  rw [List.length_drop, Array.length_toList]
  exact Nat.le_refl _
theorem ext_list2 (s : ByteArray) (q r : Nat) : (s.extract q r).data.toList = (s.data.toList.drop q).take (r - q) := by
  simp only [ByteArray.data_extract, Array.toList_extract, List.extract_eq_take_drop]
theorem list_get (s : ByteArray) (q : Nat) (h : q < s.size) : s.data.toList.drop q = s.get! q :: s.data.toList.drop (q + 1) := by
  have h3 : q < s.data.toList.length := by simpa using h
  rw [List.drop_eq_getElem_cons h3]
  congr 1
  rw [get!_eq s q h]
  simp [ByteArray.getElem_eq_getElem_data]
theorem apos_yes (s : ByteArray) (q : Nat) (h : isB s q 39) : aposAt s q = 0 := by
  unfold aposAt
  rw [ext_drop, list_get s q h.1]
  have : s.get! q = 39 := UInt8.toNat_inj.1 h.2
  rw [this]
  rfl
theorem apos_no (s : ByteArray) (q : Nat) (hq : q < s.size) (h : ¬ isB s q 39) : aposAt s q = if aposAt s (q + 1) < 0 then -1 else aposAt s (q + 1) + 1 := by
  have hne : (s.get! q).toNat ≠ 39 := fun hc => h ⟨hq, hc⟩
  unfold aposAt
  rw [ext_drop, ext_drop, list_get s q hq]
  have hb : (s.get! q == 39) = false := by
    rw [beq_eq_false_iff_ne]
    intro hc
    exact hne (by rw [hc]; rfl)
  have hge := Lib.indexByte_ge (s.data.toList.drop (q + 1)) 39
  simp only [Lib.indexByte, hb, Bool.false_eq_true, if_false]
  generalize Lib.indexByte (s.data.toList.drop (q + 1)) 39 = z at *
  by_cases hz : z = -1
  · subst hz; rfl
  · rw [if_neg (by simpa using hz), if_neg (by omega)]
theorem quotedF_twice {s : ByteArray} {f q : Nat} {acc : List UInt8} (h : isB s q 39) (h2 : isB s (q + 1) 39) : quotedF s (f + 1) q acc = quotedF s f (q + 2) (acc ++ [39]) := by
  have h0 := apos_yes s q h
  simp only [quotedF]
  rw [h0, if_neg (by decide), if_pos (by simpa [isB] using h2)]
  have e : (s.extract q (q + (0 : Int).toNat)).data.toList = [] := by rw [ext_list2]; simp
  rw [e, List.append_nil]
  rfl
theorem quotedF_shut {s : ByteArray} {f q : Nat} {acc : List UInt8} (h : isB s q 39) (h2 : ¬ isB s (q + 1) 39) : quotedF s (f + 1) q acc = some (acc, q + 1) := by
  have h0 := apos_yes s q h
  simp only [quotedF]
  rw [h0, if_neg (by decide), if_neg (by simpa [isB] using h2)]
  have e : (s.extract q (q + (0 : Int).toNat)).data.toList = [] := by rw [ext_list2]; simp
  rw [e, List.append_nil]
  rfl
theorem quotedF_end {s : ByteArray} {f q : Nat} {acc : List UInt8} (h : s.size ≤ q) : quotedF s (f + 1) q acc = none := by
  simp only [quotedF]
  rw [apos_end s q h, if_pos (by decide)]
theorem quotedF_byte {s : ByteArray} {f q : Nat} {acc : List UInt8} (hq : q < s.size) (h : ¬ isB s q 39) : quotedF s (f + 1) q acc = quotedF s (f + 1) (q + 1) (acc ++ [s.get! q]) := by
  have h0 := apos_no s q hq h
  have h1 := aposAt_ge s (q + 1)
  simp only [quotedF]
  by_cases hn : aposAt s (q + 1) < 0
  · rw [h0, if_pos hn, if_pos (by decide), if_pos hn]
  · rw [if_neg hn] at h0
    obtain ⟨k, hk⟩ : ∃ k : Nat, aposAt s (q + 1) = k := ⟨(aposAt s (q + 1)).toNat, by omega⟩
    have h0' : aposAt s q = ((k + 1 : Nat) : Int) := by rw [h0, hk]; rfl
    rw [h0', hk, if_neg (show ¬ ((k + 1 : Nat) : Int) < 0 by omega), if_neg (show ¬ ((k : Nat) : Int) < 0 by omega), Int.toNat_natCast, Int.toNat_natCast]
    have e : acc ++ (s.extract q (q + (k + 1))).data.toList = acc ++ [s.get! q] ++ (s.extract (q + 1) (q + 1 + k)).data.toList := by
      rw [ext_list2, ext_list2, list_get s q hq, List.append_assoc]
      congr 1
      rw [show q + (k + 1) - q = k + 1 by omega, show q + 1 + k - (q + 1) = k by omega]
      rfl
    rw [e, show q + (k + 1) = q + 1 + k by omega]
/-! ### what aroundF does, by the bytes -/
theorem textAdd_last (l : List Aff) (x : ByteArray) : ∃ a, (textAdd l x).getLast? = some a ∧ a.k = 1 := by
  unfold textAdd
  split
  · rename_i a ha
    by_cases h : a.k = 1
    · rw [if_pos h]; exact ⟨_, List.getLast?_concat, h⟩
    · rw [if_neg h]; exact ⟨_, List.getLast?_concat, rfl⟩
  · exact ⟨_, List.getLast?_concat, rfl⟩
/-- Behind a currency sign stands another piece. -/
def monOk (s : ByteArray) (l : List Aff) (q : Nat) : Prop := ∀ a, l.getLast? = some a → a.k = 5 → ¬ (isB s q 194 ∧ isB s (q + 1) 164)
theorem monOk.nil (s : ByteArray) (q : Nat) : monOk s [] q := fun a h => by cases h
theorem monOk.text (s : ByteArray) (l : List Aff) (x : ByteArray) (q : Nat) : monOk s (textAdd l x) q := fun a h h5 => by
  obtain ⟨b, hb, hk⟩ := textAdd_last l x
  rw [hb] at h
  obtain rfl := Option.some.inj h
  omega
theorem monOk.push (s : ByteArray) (l : List Aff) (a : Aff) (q : Nat) (ha : a.k ≠ 5) : monOk s (l ++ [a]) q := fun b h h5 => by
  rw [List.getLast?_concat] at h
  obtain rfl := Option.some.inj h
  exact absurd h5 ha
theorem monOk.here {s : ByteArray} {l : List Aff} {q : Nat} (h : ¬ (isB s q 194 ∧ isB s (q + 1) 164)) : monOk s l q := fun _ _ _ => h
section
variable {s : ByteArray} {f q : Nat} {l : List Aff}
theorem moneyAdd_first (h : monOk s l q) (hm : isB s q 194 ∧ isB s (q + 1) 164) : moneyAdd l = some (l ++ [⟨5, ⟨#[]⟩, 1⟩]) := by
  unfold moneyAdd
  split
  · rename_i a ha
    rw [if_neg (fun h5 => h a ha h5 hm)]
  · rfl
theorem moneyAdd_more (l : List Aff) (t : ByteArray) (c : Int) (hc : c ≠ 3) : moneyAdd (l ++ [⟨5, t, c⟩]) = some (l ++ [⟨5, t, c + 1⟩]) := by
  unfold moneyAdd
  rw [List.getLast?_concat]
  simp [hc]
theorem moneyAdd_three (l : List Aff) (t : ByteArray) : moneyAdd (l ++ [⟨5, t, 3⟩]) = none := by
  unfold moneyAdd
  rw [List.getLast?_concat]
  simp
theorem aroundB_first (h : monOk s l q) (hm : isB s q 194 ∧ isB s (q + 1) 164) : aroundF s (f + 1) q l = aroundF s f (q + 2) (l ++ [⟨5, ⟨#[]⟩, 1⟩]) := by
  rw [aroundF_money hm.1.1 (form_money2 hm), moneyAdd_first h hm]
theorem aroundB_more (t : ByteArray) (c : Int) (hc : c ≠ 3) (hm : isB s q 194 ∧ isB s (q + 1) 164) : aroundF s (f + 1) q (l ++ [⟨5, t, c⟩]) = aroundF s f (q + 2) (l ++ [⟨5, t, c + 1⟩]) := by
  rw [aroundF_money hm.1.1 (form_money2 hm), moneyAdd_more l t c hc]
theorem aroundB_three (t : ByteArray) (hm : isB s q 194 ∧ isB s (q + 1) 164) : aroundF s (f + 1) q (l ++ [⟨5, t, 3⟩]) = .error q := by
  rw [aroundF_money hm.1.1 (form_money2 hm), moneyAdd_three l t]
theorem form_byte (b : Nat) (h : isB s q b) (hb : b < 128) : formD s q = ((b : Int), 1) := by
  rw [formD_one (by have := h.2; omega), h.2]
theorem aroundB_twice (h : isB s q 39) (h2 : isB s (q + 1) 39) : aroundF s (f + 1) q l = aroundF s f (q + 2) (textAdd l ⟨#[39]⟩) := by
  rw [aroundF_quote h.1 (form_byte 39 h (by omega))]
  unfold quotedS
  unfold isB at h2
  rw [if_pos h2]
theorem aroundB_quote (h : isB s q 39) (h2 : ¬ isB s (q + 1) 39) : aroundF s (f + 1) q l = (match quotedF s (s.size - q) (q + 1) [] with | none => .error q | some (t, r) => aroundF s f r (textAdd l ⟨t.toArray⟩)) := by
  rw [aroundF_quote h.1 (form_byte 39 h (by omega))]
  unfold quotedS
  unfold isB at h2
  rw [if_neg h2, show s.size + 1 - (q + 1) = s.size - q by omega]
  cases quotedF s (s.size - q) (q + 1) [] with
  | none => rfl
  | some x => rfl
theorem aroundB_sign (b : Nat) (k : Int) (h : isB s q b) (hk : b = 37 ∧ k = 2 ∨ b = 45 ∧ k = 3 ∨ b = 43 ∧ k = 4) : aroundF s (f + 1) q l = aroundF s f (q + 1) (l ++ [⟨k, ⟨#[]⟩, 0⟩]) := by
  rw [aroundF_sign k h.1 (form_byte b h (by omega)) (by omega)]
/-- A byte that stops. -/
def stopN (b : Nat) : Bool := b == 35 || b == 48 || b == 44 || b == 46 || b == 59 || b == 123 || b == 125
theorem aroundB_stop (hq : q < s.size) (h : stopN (s.get! q).toNat = true) : aroundF s (f + 1) q l = .ok (l, q) := by
  have h2 : (s.get! q).toNat < 128 := by
    simp only [stopN, Bool.or_eq_true, beq_iff_eq] at h
    omega
  refine aroundF_stop hq (form_byte _ ⟨hq, rfl⟩ h2) ?_
  simp only [stopN, stopB, Bool.or_eq_true, beq_iff_eq] at h ⊢
  omega
theorem aroundB_text (hok : okAt s q) (hq : q < s.size) (h1 : stopN (s.get! q).toNat = false) (h2 : ¬ isB s q 39 ∧ ¬ isB s q 37 ∧ ¬ isB s q 45 ∧ ¬ isB s q 43 ∧ ¬ (isB s q 194 ∧ isB s (q + 1) 164)) :
    aroundF s (f + 1) q l = aroundF s f (q + (formD s q).2) (textAdd l (s.extract q (q + (formD s q).2))) := by
  have h0 := okAt_neg hok hq
  have hm := mt (form_money s q).1 h2.2.2.2.2
  refine aroundF_text (x := (formD s q).1) (n := (formD s q).2) hq rfl ?_ ?_
  · rcases form_ways s q h0 with ⟨h3, h4⟩ | ⟨h3, h4, h5, h6⟩
    · rw [h4]
      rw [← Bool.not_eq_true] at h1 ⊢
      simp only [stopN, stopB, Bool.or_eq_true, beq_iff_eq, not_or] at h1 ⊢
      omega
    · rw [← Bool.not_eq_true]
      simp only [stopB, Bool.or_eq_true, beq_iff_eq, not_or]
      omega
  · rcases form_ways s q h0 with ⟨h3, h4⟩ | ⟨h3, h4, h5, h6⟩
    · have e : (formD s q).1 = ((s.get! q).toNat : Int) := by rw [h4]
      refine ⟨fun hc => h2.2.1 ⟨hq, by omega⟩, fun hc => h2.2.2.1 ⟨hq, by omega⟩, fun hc => h2.2.2.2.1 ⟨hq, by omega⟩, fun hc => hm ⟨hq, hc⟩, fun hc => h2.1 ⟨hq, by omega⟩⟩
    · exact ⟨by omega, by omega, by omega, fun hc => hm ⟨hq, hc⟩, by omega⟩
end
/-- A quoted text from its middle on ends behind an apostrophe. -/
theorem quotedF_where (s : ByteArray) : ∀ f q acc t r, quotedF s f q acc = some (t, r) → ∃ j, r = j + 1 ∧ q ≤ j ∧ isB s j 39
  | 0, _, _, _, _, h => by simp [quotedF] at h
  | f + 1, q, acc, t, r, h => by
    simp only [quotedF] at h
    split at h
    · cases h
    · rename_i hn
      have hlt := aposAt_lt s q (by omega)
      have hb : isB s (q + (aposAt s q).toNat) 39 := by
        refine ⟨hlt, ?_⟩
        have h1 : Lib.indexByte (s.extract q s.size).data.toList 39 = ((aposAt s q).toNat : Int) := by rw [Int.toNat_of_nonneg (by omega)]; rfl
        have h2 := (Lib.indexByte_some h1).1
        rw [ext_drop, List.getElem?_drop] at h2
        have h3 : s.data.toList[q + (aposAt s q).toNat]? = some (s.get! (q + (aposAt s q).toNat)) := by
          rw [get!_eq s _ hlt, List.getElem?_eq_getElem (by simpa using hlt)]
          simp [ByteArray.getElem_eq_getElem_data]
        rw [h3] at h2
        rw [Option.some.inj h2]
        rfl
      split at h
      · obtain ⟨j, h1, h2, h3⟩ := quotedF_where s f _ _ t r h
        exact ⟨j, h1, by omega, h3⟩
      · simp only [Option.some.injEq, Prod.mk.injEq] at h
        exact ⟨_, h.2.symm, by omega, hb⟩
end Go.Proofs.YtkkglaglnfebjaaDoor
