/- A text in its quotes, read as a message: that text alone. Plain Lean, no walk. -/
import Derived.Test.YtjldgcpmdcoejaaGreatDoorDT
namespace Go.Proofs.YtjldgcpmdcoejaaGreatDoor
open Go.RowKit

theorem drop_cons {T : ByteArray} {p : Nat} {b : UInt8} {r : List UInt8} (h : T.data.toList.drop p = b :: r) :
    p < T.size ∧ byt T p = b.toNat ∧ T.data.toList.drop (p + 1) = r ∧ (T.extract p (p + 1)).data.toList = [b] := by
  have hl : p < T.data.toList.length := by
    rcases Nat.lt_or_ge p T.data.toList.length with h1 | h1
    · exact h1
    · rw [List.drop_of_length_le h1] at h; cases h
  have hp : p < T.size := by rw [size_len] at hl; exact hl
  rw [List.drop_eq_getElem_cons hl] at h
  injection h with h1 h2
  have hb : T[p] = b := h1
  refine ⟨hp, by rw [byt_in hp, hb], h2, ?_⟩
  rw [ByteArray.data_extract, Array.toList_extract, List.extract_eq_drop_take', List.drop_take, show p + 1 - p = 1 from by omega, List.drop_eq_getElem_cons hl, ← h1]
  rfl
theorem drop_nil {T : ByteArray} {p : Nat} (h : T.data.toList.drop p = []) : T.size ≤ p ∧ byt T p = -1 := by
  have hp : T.size ≤ p := by
    have := congrArg List.length h
    rw [List.length_drop, size_len, List.length_nil] at this
    omega
  exact ⟨hp, byt_out hp⟩
def stL (a : List UInt8) : List PT := if a = [] then [] else [textP ⟨a.toArray⟩]
def cntL (a : List UInt8) : Nat := if a = [] then 0 else 1
theorem putS_st (a : List UInt8) (t : ByteArray) (ht : t.data.toList ≠ []) (p : Nat) : putS (stL a) t p (cntL a) = .ok (stL (a ++ t.data.toList)) p (cntL (a ++ t.data.toList)) := by
  have hne : a ++ t.data.toList ≠ [] := fun h => ht (List.append_eq_nil_iff.1 h).2
  have e1 : stL (a ++ t.data.toList) = [textP ⟨(a ++ t.data.toList).toArray⟩] := by unfold stL; rw [if_neg hne]
  have e2 : cntL (a ++ t.data.toList) = 1 := by unfold cntL; rw [if_neg hne]
  rw [e1, e2]
  by_cases ha : a = []
  · subst ha
    have : (⟨([] ++ t.data.toList).toArray⟩ : ByteArray) = t := ByteArray.ext (by simp)
    rw [this]
    simp [stL, cntL, putS]
  · have h1 : stL a = [textP ⟨a.toArray⟩] := by unfold stL; rw [if_neg ha]
    have h2 : cntL a = 1 := by unfold cntL; rw [if_neg ha]
    have h3 : (⟨a.toArray⟩ : ByteArray) ++ t = ⟨(a ++ t.data.toList).toArray⟩ := ByteArray.ext (Array.toList_inj.1 (by simp))
    rw [h1, h2]
    simp [putS, textP, h3]
theorem read_dbl (T : ByteArray) : ∀ (X a : List UInt8) (p f : Nat) (R : List UInt8), X.any (specB false) = false → p ≤ T.size → T.data.toList.drop p = dbl X ++ R → (T.data.toList.drop p).length < f →
    ∃ p' f', p' ≤ T.size ∧ T.data.toList.drop p' = R ∧ R.length < f' ∧ msgF T f 0 false (stL a) p (cntL a) = msgF T f' 0 false (stL (a ++ X)) p' (cntL (a ++ X))
  | [], a, p, f, R, _, hpz, hd, hf => ⟨p, f, hpz, by simpa [dbl] using hd, by simpa [hd, dbl] using hf, by rw [List.append_nil]⟩
  | x :: X, a, p, f, R, hs, _, hd, hf => by
    rw [List.any_cons, Bool.or_eq_false_iff] at hs
    have hsx := hs.1
    simp only [specB, Bool.and_false, Bool.or_false, Bool.or_eq_false_iff, beq_eq_false_iff_ne] at hsx
    obtain ⟨f, rfl⟩ : ∃ g, f = g + 1 := ⟨f - 1, by omega⟩
    have h123 : (x.toNat : Int) ≠ 123 := fun h => hsx.1 (UInt8.toNat_inj.1 (by have : UInt8.toNat 123 = 123 := rfl; omega))
    have h125 : (x.toNat : Int) ≠ 125 := fun h => hsx.2 (UInt8.toNat_inj.1 (by have : UInt8.toNat 125 = 125 := rfl; omega))
    by_cases hx : x = 39
    · subst hx
      rw [dbl_cons, if_pos rfl] at hd
      obtain ⟨hp, hb, hd1, _⟩ := drop_cons (show T.data.toList.drop p = 39 :: (39 :: (dbl X ++ R)) from hd)
      obtain ⟨hp1, hb1, hd2, _⟩ := drop_cons hd1
      obtain ⟨p', f', e0, e1, e2, e3⟩ := read_dbl T X (a ++ [39]) (p + 2) f R hs.2 hp1 hd2 (by rw [hd] at hf; rw [hd2]; simp at hf ⊢; omega)
      refine ⟨p', f', e0, e1, e2, ?_⟩
      have k1 : byt T p = 39 := hb
      have k2 : byt T (p + 1) = 39 := hb1
      rw [msgF, if_neg (by rw [k1]; omega), if_neg (by rw [k1]; omega), if_neg (by rw [k1]; omega), if_pos ⟨k1, k2⟩, putS_st a ⟨#[39]⟩ (by simp) p]
      simp only [RM.then]
      refine e3.trans ?_
      rw [List.append_assoc]
      rfl
    · rw [dbl_cons, if_neg hx] at hd
      obtain ⟨hp, hb, hd1, hg⟩ := drop_cons (show T.data.toList.drop p = x :: (dbl X ++ R) from hd)
      obtain ⟨p', f', e0, e1, e2, e3⟩ := read_dbl T X (a ++ [x]) (p + 1) f R hs.2 hp hd1 (by rw [hd] at hf; rw [hd1]; simp at hf ⊢; omega)
      refine ⟨p', f', e0, e1, e2, ?_⟩
      have k39 : byt T p ≠ 39 := by rw [hb]; intro h; exact hx (UInt8.toNat_inj.1 (by have : (39 : UInt8).toNat = 39 := rfl; omega))
      rw [msgF, if_neg (by rw [hb]; omega), if_neg (by rw [hb]; omega), if_neg (by simp), if_neg (fun h => k39 h.1), if_neg (fun h => k39 h.1), putS_st a (T.extract p (p + 1)) (by rw [hg]; simp) p]
      simp only [RM.then]
      rw [hg, e3, List.append_assoc]
      rfl
theorem quot_end (T : ByteArray) (o : Nat) : ∀ (S : List UInt8) (q f : Nat) (acc : List UInt8), T.data.toList.drop q = 39 :: dbl S → (T.data.toList.drop q).length < f →
    ∃ Z Y q', S = Z ++ Y ∧ quotF T o f q acc = .ok (acc ++ Z) q' ∧ T.data.toList.drop q' = dbl Y ∧ q' ≤ T.size
  | [], q, f, acc, hd, hf => by
    obtain ⟨f, rfl⟩ : ∃ g, f = g + 1 := ⟨f - 1, by omega⟩
    obtain ⟨hp, hb, hd1, _⟩ := drop_cons hd
    have h1 := (drop_nil hd1).2
    have k1 : byt T q = 39 := hb
    exact ⟨[], [], q + 1, rfl, by rw [quotF, dif_pos hp, if_pos k1, if_neg (by rw [h1]; omega), List.append_nil], hd1, hp⟩
  | y :: S, q, f, acc, hd, hf => by
    obtain ⟨f, rfl⟩ : ∃ g, f = g + 1 := ⟨f - 1, by omega⟩
    obtain ⟨hp, hb, hd1, _⟩ := drop_cons hd
    have k1 : byt T q = 39 := hb
    by_cases hy : y = 39
    · subst hy
      rw [dbl_cons, if_pos rfl] at hd1
      obtain ⟨hp1, hb1, hd2, _⟩ := drop_cons (show T.data.toList.drop (q + 1) = 39 :: (39 :: dbl S) from hd1)
      have k2 : byt T (q + 1) = 39 := hb1
      obtain ⟨Z, Y, q', e1, e2, e3⟩ := quot_end T o S (q + 2) f (acc ++ [39]) hd2 (by rw [hd, dbl_cons, if_pos rfl] at hf; rw [hd2]; simp at hf ⊢; omega)
      exact ⟨39 :: Z, Y, q', by rw [e1]; rfl, by rw [quotF, dif_pos hp, if_pos k1, if_pos k2, e2, List.append_assoc]; rfl, e3⟩
    · have hd1' := hd1
      rw [dbl_cons, if_neg hy] at hd1'
      obtain ⟨hp1, hb1, _, _⟩ := drop_cons (show T.data.toList.drop (q + 1) = y :: dbl S from hd1')
      have k2 : byt T (q + 1) ≠ 39 := by rw [hb1]; intro h; exact hy (UInt8.toNat_inj.1 (by have : (39 : UInt8).toNat = 39 := rfl; omega))
      exact ⟨[], y :: S, q + 1, rfl, by rw [quotF, dif_pos hp, if_pos k1, if_neg k2, List.append_nil], hd1, hp⟩
theorem quot_read (T : ByteArray) (o : Nat) : ∀ (M S : List UInt8) (q f : Nat) (acc : List UInt8), T.data.toList.drop q = dbl M ++ 39 :: dbl S → (T.data.toList.drop q).length < f →
    ∃ Z Y q', S = Z ++ Y ∧ quotF T o f q acc = .ok (acc ++ M ++ Z) q' ∧ T.data.toList.drop q' = dbl Y ∧ q' ≤ T.size
  | [], S, q, f, acc, hd, hf => by
    obtain ⟨Z, Y, q', e1, e2, e3⟩ := quot_end T o S q f acc hd hf
    exact ⟨Z, Y, q', e1, by rw [e2, List.append_nil], e3⟩
  | x :: M, S, q, f, acc, hd, hf => by
    obtain ⟨f, rfl⟩ : ∃ g, f = g + 1 := ⟨f - 1, by omega⟩
    by_cases hx : x = 39
    · subst hx
      have hd' := hd
      rw [dbl_cons, if_pos rfl] at hd'
      obtain ⟨hp, hb, hd1, _⟩ := drop_cons (show T.data.toList.drop q = 39 :: (39 :: (dbl M ++ 39 :: dbl S)) from hd')
      obtain ⟨hp1, hb1, hd2, _⟩ := drop_cons hd1
      have k1 : byt T q = 39 := hb
      have k2 : byt T (q + 1) = 39 := hb1
      obtain ⟨Z, Y, q', e1, e2, e3⟩ := quot_read T o M S (q + 2) f (acc ++ [39]) hd2 (by rw [hd'] at hf; rw [hd2]; simp at hf ⊢; omega)
      exact ⟨Z, Y, q', e1, by rw [quotF, dif_pos hp, if_pos k1, if_pos k2, e2]; simp, e3⟩
    · have hd' := hd
      rw [dbl_cons, if_neg hx] at hd'
      obtain ⟨hp, hb, hd1, _⟩ := drop_cons (show T.data.toList.drop q = x :: (dbl M ++ 39 :: dbl S) from hd')
      have k1 : byt T q ≠ 39 := by rw [hb]; intro h; exact hx (UInt8.toNat_inj.1 (by have : (39 : UInt8).toNat = 39 := rfl; omega))
      have hg : T[q] = x := UInt8.toNat_inj.1 (by rw [byt_in hp] at hb; exact_mod_cast hb)
      obtain ⟨Z, Y, q', e1, e2, e3⟩ := quot_read T o M S (q + 1) f (acc ++ [x]) hd1 (by rw [hd'] at hf; rw [hd1]; simp at hf ⊢; omega)
      exact ⟨Z, Y, q', e1, by rw [quotF, dif_pos hp, if_neg k1, hg, e2]; simp, e3⟩
theorem any_first (c : UInt8 → Bool) : ∀ l : List UInt8, (l.take (l.findIdx c)).any c = false
  | [] => rfl
  | x :: l => by
    rw [List.findIdx_cons]
    cases hx : c x
    · simp [hx, any_first c l]
    · simp
theorem any_last (c : UInt8 → Bool) (l : List UInt8) : (l.drop (lastN c l)).any c = false := by
  rw [← List.any_reverse, lastN, ← List.take_reverse]
  exact any_first c l.reverse
theorem mid_head {c : UInt8 → Bool} {l : List UInt8} (h : l.any c = true) : ∃ m M, (l.take (lastN c l)).drop (l.findIdx c) = m :: M ∧ c m = true := by
  have h1 := first_last h
  have h2 := lastN_le c l
  have hl : l.findIdx c < (l.take (lastN c l)).length := by rw [List.length_take]; omega
  refine ⟨_, _, List.drop_eq_getElem_cons hl, ?_⟩
  rw [List.getElem_take]
  exact List.findIdx_getElem (w := by omega)
theorem dress_split {l : List UInt8} {c : UInt8 → Bool} (h : l.any c = true) : l.take (l.findIdx c) ++ ((l.take (lastN c l)).drop (l.findIdx c) ++ l.drop (lastN c l)) = l := by
  have h1 := first_last h
  have e : l.take (l.findIdx c) = (l.take (lastN c l)).take (l.findIdx c) := by rw [List.take_take, Nat.min_eq_left (by omega)]
  rw [e, ← List.append_assoc, List.take_append_drop, List.take_append_drop]
theorem read_end (T : ByteArray) (f p n : Nat) (l : List PT) (hf : 0 < f) (hp : p ≤ T.size) (hd : T.data.toList.drop p = []) : msgF T f 0 false l p n = .ok l T.size n := by
  obtain ⟨f, rfl⟩ : ∃ g, f = g + 1 := ⟨f - 1, by omega⟩
  have : p = T.size := Nat.le_antisymm hp (drop_nil hd).1
  subst this
  rw [msgF, if_pos (.inl rfl)]
/-- A text in its quotes is read as that text alone. -/
theorem read_dress (S T : ByteArray) (hne : S.data.toList ≠ []) (hT : T.data.toList = dressL false S.data.toList) : msgF T (T.size + 1) 0 false [] 0 0 = .ok [textP S] T.size 1 := by
  have hst : stL S.data.toList = [textP S] := by unfold stL; rw [if_neg hne]
  have hct : cntL S.data.toList = 1 := by unfold cntL; rw [if_neg hne]
  have h0 : msgF T (T.size + 1) 0 false [] 0 0 = msgF T (T.size + 1) 0 false (stL []) 0 (cntL []) := rfl
  rw [h0]
  by_cases ha : S.data.toList.any (specB false) = true
  · have hd : T.data.toList.drop 0 = dbl (S.data.toList.take (S.data.toList.findIdx (specB false))) ++ (39 :: (dbl ((S.data.toList.take (lastN (specB false) S.data.toList)).drop (S.data.toList.findIdx (specB false))) ++ 39 :: dbl (S.data.toList.drop (lastN (specB false) S.data.toList)))) := by
      rw [List.drop_zero, hT]; unfold dressL; rw [if_pos ha]; simp
    have hA := any_first (specB false) S.data.toList
    have hC := any_last (specB false) S.data.toList
    have hsp := dress_split ha
    obtain ⟨m, M, hM, hm⟩ := mid_head ha
    rw [hM] at hd hsp
    generalize S.data.toList.take (S.data.toList.findIdx (specB false)) = A at *
    generalize S.data.toList.drop (lastN (specB false) S.data.toList) = C at *
    obtain ⟨p1, f1, i1, i2, i3, i4⟩ := read_dbl T A [] 0 (T.size + 1) _ hA (Nat.zero_le _) hd (by rw [List.drop_zero, size_len]; omega)
    rw [i4]
    obtain ⟨f1, rfl⟩ : ∃ g, f1 = g + 1 := ⟨f1 - 1, by omega⟩
    obtain ⟨hp, hb, hd1, _⟩ := drop_cons i2
    have hmx : m = 123 ∨ m = 125 := by simpa [specB] using hm
    have hm39 : m ≠ 39 := by rcases hmx with rfl | rfl <;> decide
    have hd1' := hd1
    rw [dbl_cons, if_neg hm39] at hd1'
    obtain ⟨hp2, hb2, _, _⟩ := drop_cons (show T.data.toList.drop (p1 + 1) = m :: (dbl M ++ 39 :: dbl C) from hd1')
    have k1 : byt T p1 = 39 := hb
    have k2 : byt T (p1 + 1) ≠ 39 := by rw [hb2]; rcases hmx with rfl | rfl <;> decide
    have k3 : quotB T false p1 = true := by unfold quotB; rw [hb2]; rcases hmx with rfl | rfl <;> rfl
    obtain ⟨Z, Y, q', e1, e2, e3, e4⟩ := quot_read T p1 (m :: M) C (p1 + 1) (T.size + 1 - (p1 + 1)) [] hd1 (by rw [List.length_drop, size_len]; omega)
    have hq : quotS T p1 = .ok (m :: M ++ Z) q' := e2
    have hmz : (⟨(m :: M ++ Z).toArray⟩ : ByteArray).data.toList = m :: M ++ Z := by simp
    rw [msgF, if_neg (by rw [k1]; omega), if_neg (by rw [k1]; omega), if_neg (by simp), if_neg (fun h => k2 h.2), if_pos ⟨k1, k3⟩, hq]
    simp only [RR.thenM]
    rw [putS_st _ _ (by rw [hmz]; simp), hmz]
    simp only [RM.then]
    have hY : Y.any (specB false) = false := by
      rw [e1, List.any_append, Bool.or_eq_false_iff] at hC
      exact hC.2
    obtain ⟨p2, f2, j1, j2, j3, j4⟩ := read_dbl T Y ([] ++ A ++ (m :: M ++ Z)) q' f1 [] hY e4 (by rw [e3, List.append_nil]) (by
      have : (T.data.toList.drop q').length < (39 :: (dbl (m :: M) ++ 39 :: dbl C)).length := by
        rw [e3, e1, dbl_append]; simp; omega
      omega)
    rw [j4, read_end T f2 p2 _ _ (by omega) j1 j2]
    have hall : [] ++ A ++ (m :: M ++ Z) ++ Y = S.data.toList := by rw [← hsp, e1]; simp
    rw [hall, hst, hct]
  · have hb : S.data.toList.any (specB false) = false := by simpa using ha
    have hd : T.data.toList.drop 0 = dbl S.data.toList ++ [] := by
      rw [List.drop_zero, hT, List.append_nil]; unfold dressL; rw [if_neg ha]
    obtain ⟨p1, f1, i1, i2, i3, i4⟩ := read_dbl T S.data.toList [] 0 (T.size + 1) [] hb (Nat.zero_le _) hd (by rw [List.drop_zero, size_len]; omega)
    rw [i4, read_end T f1 p1 _ _ (by omega) i1 i2, List.nil_append, hst, hct]
end Go.Proofs.YtjldgcpmdcoejaaGreatDoor
