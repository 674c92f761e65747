/- Plain law: the digits by a pattern are the decimal's own, rounded. -/
import Derived.Test.YtkkglaglnfebjaaDoorWRound
import Derived.Test.YtkkglaglnfebjaaDoorPP
namespace Go.Proofs.YtkkglaglnfebjaaDoor

def dz (l : List UInt8) : List UInt8 := l.dropWhile (· == 48)
def zs (n : Nat) : List UInt8 := List.replicate n 48
theorem dz_zs (n : Nat) (l : List UInt8) : dz (zs n ++ l) = dz l := by
  induction n with
  | zero => rfl
  | succ n ih =>
    show dz ((List.replicate (n + 1) 48) ++ l) = _
    rw [List.replicate_succ]
    show List.dropWhile _ (48 :: (List.replicate n 48 ++ l)) = _
    rw [List.dropWhile_cons_of_pos (by rfl)]
    exact ih
theorem dz_nil (n : Nat) : dz (zs n) = [] := by
  have := dz_zs n []
  rwa [List.append_nil] at this
theorem dz_split : ∀ l : List UInt8, l = zs (l.length - (dz l).length) ++ dz l
  | [] => rfl
  | a :: l => by
    by_cases h : a = 48
    · subst h
      have e : dz (48 :: l) = dz l := List.dropWhile_cons_of_pos (by rfl)
      rw [e]
      have ih := dz_split l
      have hle := (List.dropWhile_suffix (fun b : UInt8 => b == 48) (l := l)).length_le
      have hle2 : (dz l).length ≤ l.length := hle
      rw [List.length_cons, show l.length + 1 - (dz l).length = (l.length - (dz l).length) + 1 by omega]
      show _ = List.replicate _ 48 ++ _
      rw [List.replicate_succ, List.cons_append]
      exact congrArg _ ih
    · have e : dz (a :: l) = a :: l := List.dropWhile_cons_of_neg (by simpa using h)
      rw [e, Nat.sub_self]; rfl
theorem dz_len (l : List UInt8) : (dz l).length ≤ l.length := (List.dropWhile_suffix (fun b : UInt8 => b == 48) (l := l)).length_le
theorem pad_eq (x y : List UInt8) (n : Nat) (h : dz x = dz y) (hx : x.length ≤ n) (hy : y.length ≤ n) : zs (n - x.length) ++ x = zs (n - y.length) ++ y := by
  have key : ∀ z : List UInt8, z.length ≤ n → zs (n - z.length) ++ z = zs (n - (dz z).length) ++ dz z := fun z hz => by
    have h1 := dz_len z
    have h2 : zs (n - z.length) ++ z = zs (n - z.length) ++ (zs (z.length - (dz z).length) ++ dz z) := congrArg _ (dz_split z)
    rw [h2, ← List.append_assoc]
    congr 1
    unfold zs
    rw [List.replicate_append_replicate]
    congr 1
    omega
  rw [key x hx, key y hy, h]
theorem dz_ne {u : List UInt8} (v : List UInt8) (h : dz u ≠ []) : dz (u ++ v) = dz u ++ v := by
  induction u with
  | nil => exact absurd rfl h
  | cons a u ih =>
    by_cases ha : a = 48
    · subst ha
      have e : dz (48 :: u) = dz u := List.dropWhile_cons_of_pos (by rfl)
      rw [e] at h ⊢
      have e2 : dz (48 :: u ++ v) = dz (u ++ v) := List.dropWhile_cons_of_pos (by rfl)
      rw [e2]
      exact ih h
    · have e : dz (a :: u) = a :: u := List.dropWhile_cons_of_neg (by simpa using ha)
      have e2 : dz (a :: u ++ v) = a :: u ++ v := List.dropWhile_cons_of_neg (by simpa using ha)
      rw [e, e2]
theorem dz_emp {u : List UInt8} (v : List UInt8) (h : dz u = []) : dz (u ++ v) = dz v := by
  have := dz_split u
  rw [h, List.append_nil] at this
  rw [this, dz_zs]
theorem dz_dz (u : List UInt8) : dz (dz u) = dz u := by
  have h := dz_split u
  have := dz_zs (u.length - (dz u).length) (dz u)
  rw [← h] at this
  exact this.symm
theorem dz_canon (u v : List UInt8) : dz (canon u ++ v) = dz (u ++ v) := by
  have e : canon u = if dz u = [] then [48] else dz u := rfl
  rw [e]
  by_cases h : dz u = []
  · rw [if_pos h, dz_emp v h]
    exact dz_zs 1 v
  · rw [if_neg h, dz_ne v h]
    have h2 : dz (dz u) ≠ [] := by rw [dz_dz]; exact h
    have := dz_ne v h2
    rw [dz_dz] at this
    exact this
theorem strip_zs (least : Nat) : ∀ (n : Nat) (f : List UInt8), ∃ j, f = stripL least n f ++ zs j
  | 0, f => ⟨0, (List.append_nil f).symm⟩
  | n + 1, f => by
    unfold stripL
    split
    · rename_i h
      obtain ⟨j, hj⟩ := strip_zs least n f.dropLast
      refine ⟨j + 1, ?_⟩
      have hne : f ≠ [] := by rintro rfl; simp at h
      have e : f = f.dropLast ++ [48] := by
        have h1 := List.dropLast_concat_getLast hne
        have h2 : f.getLast hne = 48 := by
          have := h.2
          rw [List.getLast?_eq_some_getLast hne] at this
          exact Option.some.inj this
        rw [h2] at h1
        exact h1.symm
      conv => lhs; rw [e, hj]
      unfold zs
      rw [List.replicate_succ', List.append_assoc]
    · exact ⟨0, (List.append_nil f).symm⟩
/-- The decimal, rounded: its digits, its scale. -/
def rndL (xf sc : Nat) (l : List UInt8) : List UInt8 := if xf < sc then roundP (sc - xf) l else l
def rndS (xf sc : Nat) : Nat := if xf < sc then xf else sc
theorem frac_root (mf xf sc : Nat) (l : List UInt8) : ∃ F j, fracD mf xf sc l = F ∧ restT (rndS xf sc) (rndL xf sc l) = F ++ zs j := by
  unfold fracD rndL rndS
  by_cases h : xf < sc
  · rw [if_pos h, if_pos h, if_pos h]
    obtain ⟨j, hj⟩ := strip_zs mf xf (restT xf (roundP (sc - xf) l))
    exact ⟨_, j, rfl, hj⟩
  · rw [if_neg h, if_neg h, if_neg h]
    exact ⟨_, 0, rfl, (List.append_nil _).symm⟩
theorem whole_eq (xf sc : Nat) (l : List UInt8) : wholeD xf sc l = keptT (rndS xf sc) (rndL xf sc l) := by
  unfold wholeD rndL rndS
  split <;> rfl
theorem frac_len (mf xf sc : Nat) (l : List UInt8) : (fracD mf xf sc l).length ≤ xf ∧ (fracD mf xf sc l).length ≤ rndS xf sc := by
  obtain ⟨F, j, h1, h2⟩ := frac_root mf xf sc l
  have h3 := congrArg List.length h2
  rw [restT_len, List.length_append] at h3
  rw [h1]
  have : rndS xf sc ≤ xf := by unfold rndS; split <;> omega
  omega
/-- Both at one scale, without what stands ahead. -/
theorem num_eq (mi mf xf sc : Nat) (l : List UInt8) (M : Nat) (hM : M = max (fillF mf (fracD mf xf sc l)).length (rndS xf sc)) :
    dz (canon (canon (fillW mi (wholeD xf sc l)) ++ fillF mf (fracD mf xf sc l)) ++ zs (M - (fillF mf (fracD mf xf sc l)).length)) = dz (rndL xf sc l ++ zs (M - rndS xf sc)) := by
  rw [dz_canon, List.append_assoc, dz_canon]
  have e1 : fillW mi (wholeD xf sc l) = zs (mi - (wholeD xf sc l).length) ++ wholeD xf sc l := rfl
  rw [e1, List.append_assoc, dz_zs, whole_eq]
  obtain ⟨F, j, h1, h2⟩ := frac_root mf xf sc l
  rw [h1] at hM ⊢
  have hl := congrArg List.length h2
  rw [restT_len, List.length_append] at hl
  have hz : ∀ n, (zs n).length = n := fun n => List.length_replicate
  rw [hz] at hl
  have e2 : fillF mf F = F ++ zs (mf - F.length) := rfl
  have e3 : fillF mf F ++ zs (M - (fillF mf F).length) = restT (rndS xf sc) (rndL xf sc l) ++ zs (M - rndS xf sc) := by
    rw [h2]
    rw [e2] at hM ⊢
    rw [List.length_append, hz] at hM ⊢
    rw [List.append_assoc, List.append_assoc]
    congr 1
    unfold zs
    rw [List.replicate_append_replicate, List.replicate_append_replicate]
    congr 1
    omega
  rw [e3, ← List.append_assoc, padT_eq]
  unfold padT
  rw [List.append_assoc]
  exact dz_zs _ _
theorem can_zero {l : List UInt8} (h : CanT l) (a : Nat) : dz (l ++ zs a) = [] ↔ l = [48] := by
  constructor
  · intro hd
    match l, h with
    | [], h => exact absurd rfl h.ne
    | b :: r, h =>
      by_cases hb : b = 48
      · subst hb
        exact h.hd rfl
      · have e : dz (b :: r ++ zs a) = b :: r ++ zs a := List.dropWhile_cons_of_neg (by simpa using hb)
        rw [e] at hd
        cases hd
  · rintro rfl
    exact dz_nil (a + 1)
theorem rnd_can (xf sc : Nat) (l : List UInt8) (h : CanT l) (hl : l.length ≤ 400) (hsc : sc ≤ 400) : CanT (rndL xf sc l) ∧ (rndL xf sc l).length ≤ 400 ∧ rndS xf sc ≤ 400 := by
  unfold rndL rndS
  by_cases hx : xf < sc
  · rw [if_pos hx, if_pos hx]
    exact ⟨round_can _ h.ok, round_len _ _ (by omega) hl (by omega), by omega⟩
  · rw [if_neg hx, if_neg hx]
    exact ⟨h, hl, hsc⟩
/-- More than one digit ahead of the point: no nought ahead. -/
theorem kept_head {n : Nat} {l : List UInt8} (h : CanT l) (h1 : 1 < (keptT n l).length) : (keptT n l).head? ≠ some 48 := by
  have hl := keptT_len n l
  have hlt : n + 1 < l.length := by omega
  unfold keptT padT
  rw [show n + 1 - l.length = 0 by omega]
  show (List.take _ l).head? ≠ _
  match l, h with
  | [], h => exact absurd rfl h.ne
  | b :: r, h =>
    show (List.take ((b :: r).length - n) (b :: r)).head? ≠ _
    rw [show (b :: r).length - n = ((b :: r).length - n - 1) + 1 by omega, List.take_succ_cons]
    intro hb
    have hb2 : b = 48 := by simpa using hb
    subst hb2
    have := h.hd rfl
    rw [this] at hlt
    simp at hlt
end Go.Proofs.YtkkglaglnfebjaaDoor
