/- Plain: what Groups' pieces are. No program. -/
import Derived.Test.YtkkglaglnfebjaaDoorGP
import Derived.Lib.Join
namespace Go.Proofs.YtkkglaglnfebjaaDoor
open Go.RowKit

theorem join_empty (xs : List (List UInt8)) : Lib.join xs [] = xs.flatten := by
  cases xs with
  | nil => rfl
  | cons x r =>
    rw [Lib.join_cons]
    simp [Lib.joinTail]
theorem ext_cat (s : ByteArray) (a b c : Nat) (h1 : a ≤ b) (h2 : b ≤ c) (_h3 : c ≤ s.size) : (s.extract a b).data.toList ++ (s.extract b c).data.toList = (s.extract a c).data.toList := by
  simp only [ByteArray.data_extract, Array.toList_extract, List.extract_eq_take_drop]
  rw [show c - a = (b - a) + (c - b) by omega, List.take_add, List.drop_drop, show a + (b - a) = b by omega]
theorem ext_size (s : ByteArray) (a b : Nat) (h : b ≤ s.size) : (s.extract a b).size = b - a := by
  rw [ByteArray.size_extract]; omega
theorem piecesF_spec (s : ByteArray) (G2 : Nat) (hG : 1 ≤ G2) : ∀ f n, 1 ≤ n → n ≤ s.size → n ≤ f + 1 →
    piecesF s G2 f n ≠ [] ∧ (∀ j x, j + 1 < (piecesF s G2 f n).length → (piecesF s G2 f n)[j]? = some x → x.size = G2) ∧
    (∀ x, (piecesF s G2 f n).getLast? = some x → 1 ≤ x.size ∧ x.size ≤ G2) ∧ ((piecesF s G2 f n).reverse.map (·.data.toList)).flatten = (s.extract 0 n).data.toList
  | 0, n, h1, h2, h3 => by
    have hn : n = 1 := by omega
    subst hn
    refine ⟨by simp [piecesF], fun j x hj => ?_, fun x hx => ?_, by simp [piecesF]⟩
    · simp [piecesF] at hj
    · simp only [piecesF, List.getLast?_singleton, Option.some.injEq] at hx
      subst hx
      rw [ext_size _ _ _ h2]; omega
  | f + 1, n, h1, h2, h3 => by
    by_cases hc : G2 < n
    · obtain ⟨i1, i2, i3, i4⟩ := piecesF_spec s G2 hG f (n - G2) (by omega) (by omega) (by omega)
      simp only [piecesF]
      rw [if_pos hc]
      refine ⟨by simp, fun j x hj hx => ?_, fun x hx => ?_, ?_⟩
      · cases j with
        | zero =>
          simp only [List.getElem?_cons_zero, Option.some.injEq] at hx
          subst hx
          rw [ext_size _ _ _ h2]; omega
        | succ j =>
          rw [List.getElem?_cons_succ] at hx
          exact i2 j x (by simpa using hj) hx
      · rw [List.getLast?_cons_of_ne_nil i1] at hx
        exact i3 x hx
      · rw [List.reverse_cons, List.map_append, List.flatten_append, i4]
        simp only [List.map_cons, List.map_nil, List.flatten_cons, List.flatten_nil, List.append_nil]
        exact ext_cat s 0 (n - G2) n (by omega) (by omega) h2
    · simp only [piecesF]
      rw [if_neg hc]
      refine ⟨by simp, fun j x hj => ?_, fun x hx => ?_, by simp⟩
      · simp at hj
      · simp only [List.getLast?_singleton, Option.some.injEq] at hx
        subst hx
        rw [ext_size _ _ _ h2]; omega

/-- What holds of two groups and more. -/
structure GrpOK (L : List ByteArray) (g g2 : Int) (s : ByteArray) : Prop where
  len : 2 ≤ L.length
  last : ∀ x, L[L.length - 1]? = some x → (x.size : Int) = g
  fst : ∀ x, L[0]? = some x → 1 ≤ (x.size : Int) ∧ (x.size : Int) ≤ g2
  mid : ∀ j x, 1 ≤ j → j + 1 < L.length → L[j]? = some x → (x.size : Int) = g2
  joins : (L.map (·.data.toList)).flatten = s.data.toList
theorem extract_all (s : ByteArray) : s.extract 0 s.size = s := by
  apply ByteArray.ext
  simp
theorem groupsL_ok (p : PatD) (s : ByteArray) (least : Int) (hr : rightB p = true) (h : ¬ (p.g = 0 ∨ (s.size : Int) - p.g < 1 ∨ (s.size : Int) - p.g < least)) : GrpOK (groupsL p s least) p.g p.g2 s := by
  obtain ⟨_, ng⟩ := right_nums p hr
  have hg : 1 ≤ p.g ∧ 1 ≤ p.g2 := by omega
  have hn1 : s.size - p.g.toNat ≤ s.size := by omega
  obtain ⟨i1, i2, i3, i4⟩ := piecesF_spec s p.g2.toNat (by omega) s.size (s.size - p.g.toNat) (by omega) hn1 (by omega)
  unfold groupsL
  rw [if_neg h]
  generalize piecesF s p.g2.toNat s.size (s.size - p.g.toNat) = P at *
  have hP : 1 ≤ P.length := by cases P with | nil => exact absurd rfl i1 | cons a l => simp
  have hl : ((s.extract (s.size - p.g.toNat) s.size) :: P).reverse.length = P.length + 1 := by simp
  refine ⟨by rw [hl]; omega, fun x hx => ?_, fun x hx => ?_, fun j x h1 h2 hx => ?_, ?_⟩
  · rw [hl, List.reverse_cons, Nat.add_sub_cancel, List.getElem?_append_right (by simp)] at hx
    simp at hx
    rw [← hx, ext_size _ _ _ (Nat.le_refl _)]
    omega
  · rw [List.reverse_cons, List.getElem?_append_left (by simp; omega), List.getElem?_reverse (by omega)] at hx
    have := i3 x (by rw [List.getLast?_eq_getElem?]; simpa using hx)
    omega
  · rw [hl] at h2
    rw [List.reverse_cons, List.getElem?_append_left (by simp; omega), List.getElem?_reverse (by omega)] at hx
    have := i2 (P.length - 1 - j) x (by omega) hx
    omega
  · rw [List.reverse_cons, List.map_append, List.flatten_append, i4]
    simp only [List.map_cons, List.map_nil, List.flatten_cons, List.flatten_nil, List.append_nil]
    rw [ext_cat s 0 _ _ (by omega) hn1 (Nat.le_refl _), extract_all]
theorem groupsL_len (p : PatD) (s : ByteArray) (least : Int) (hr : rightB p = true) : (groupsL p s least).length ≤ s.size + 2 := by
  obtain ⟨_, ng⟩ := right_nums p hr
  unfold groupsL
  split
  · simp
  · rename_i h
    have := piecesF_len s p.g2.toNat s.size (s.size - p.g.toNat) (by omega)
    simp only [List.length_reverse, List.length_cons]
    omega
theorem groupsL_one (p : PatD) (s : ByteArray) (least : Int) (h : p.g = 0 ∨ (s.size : Int) - p.g < 1 ∨ (s.size : Int) - p.g < least) : groupsL p s least = [s] := by
  unfold groupsL; rw [if_pos h]
end Go.Proofs.YtkkglaglnfebjaaDoor
