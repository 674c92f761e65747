/- Plain law: rows of digits, rounded two ways. Plain law: the loops over rows of digits. -/
import Derived.Lib.Bytealg
namespace Go.Proofs.YtkkglaglnfebjaaDoor

/-- A digit's number; a row of numbers, the lowest first; a number's digit. -/
def dig (b : UInt8) : Int := (b.toNat : Int) - 48
def rowOf (l : List UInt8) : List Int := l.reverse.map dig
def toB (z : Int) : UInt8 := UInt8.ofNat (z + 48).toNat
def isD (b : UInt8) : Prop := 48 ≤ b.toNat ∧ b.toNat ≤ 57
def atL (l : List Int) (i : Nat) : Int := l.getD i 0
def lessF : Nat → List Int → List Int → Bool
  | 0, _, _ => false
  | n + 1, a, b => if atL a n ≠ atL b n then decide (atL a n < atL b n) else lessF n a b
theorem atL_left (a s : List Int) (i : Nat) (h : i < a.length) : atL (a ++ s) i = atL a i := by
  unfold atL
  rw [List.getD_eq_getElem?_getD, List.getD_eq_getElem?_getD, List.getElem?_append_left h]
theorem atL_end (a : List Int) (z : Int) : atL (a ++ [z]) a.length = z := by
  unfold atL
  rw [List.getD_eq_getElem?_getD, List.getElem?_append_right (Nat.le_refl _)]
  simp
theorem lessF_app (s t : List Int) : ∀ (n : Nat) (a b : List Int), n ≤ a.length → n ≤ b.length → lessF n (a ++ s) (b ++ t) = lessF n a b
  | 0, _, _, _, _ => rfl
  | n + 1, a, b, ha, hb => by
    unfold lessF
    rw [atL_left _ _ _ ha, atL_left _ _ _ hb, lessF_app s t n a b (by omega) (by omega)]
theorem rowOf_cons (a : UInt8) (l : List UInt8) : rowOf (a :: l) = rowOf l ++ [dig a] := by simp [rowOf]
theorem rowOf_len (l : List UInt8) : (rowOf l).length = l.length := by simp [rowOf]
theorem u8_lt (a b : UInt8) : a < b ↔ a.toNat < b.toNat := UInt8.lt_iff_toNat_lt
theorem less_cmp : ∀ x y : List UInt8, x.length = y.length → lessF x.length (rowOf x) (rowOf y) = decide (Lib.compareBytes x y < 0)
  | [], [], _ => by decide
  | [], _ :: _, h => by cases h
  | _ :: _, [], h => by cases h
  | a :: x, b :: y, h => by
    have hl : x.length = y.length := by simpa using h
    have e1 : atL (rowOf x ++ [dig a]) x.length = dig a := by rw [← rowOf_len x]; exact atL_end _ _
    have e2 : atL (rowOf y ++ [dig b]) x.length = dig b := by rw [hl, ← rowOf_len y]; exact atL_end _ _
    have e3 : lessF x.length (rowOf x ++ [dig a]) (rowOf y ++ [dig b]) = decide (Lib.compareBytes x y < 0) := by
      rw [lessF_app _ _ _ _ _ (by rw [rowOf_len]; exact Nat.le_refl _) (by rw [rowOf_len]; omega)]
      exact less_cmp x y hl
    show lessF (x.length + 1) _ _ = _
    rw [rowOf_cons, rowOf_cons]
    unfold lessF Lib.compareBytes
    rw [e1, e2, e3]
    unfold dig
    by_cases h1 : a < b
    · rw [if_pos h1, if_pos (by have := (u8_lt a b).1 h1; omega)]
      exact decide_eq_decide.2 ⟨fun _ => by decide, fun _ => by have := (u8_lt a b).1 h1; omega⟩
    · rw [if_neg h1]
      by_cases h2 : b < a
      · rw [if_pos h2, if_pos (by have := (u8_lt b a).1 h2; omega)]
        exact decide_eq_decide.2 ⟨fun h => by have := (u8_lt b a).1 h2; omega, fun h => absurd h (by decide)⟩
      · rw [if_neg h2, if_neg (by have := mt (u8_lt a b).2 h1; have := mt (u8_lt b a).2 h2; omega)]
theorem cmp_swap : ∀ x y : List UInt8, Lib.compareBytes y x = - Lib.compareBytes x y
  | [], [] => rfl
  | [], _ :: _ => rfl
  | _ :: _, [] => rfl
  | a :: x, b :: y => by
    unfold Lib.compareBytes
    by_cases h1 : a < b
    · have h2 : ¬ b < a := by have := (u8_lt a b).1 h1; exact fun h => by have := (u8_lt b a).1 h; omega
      rw [if_pos h1, if_neg h2, if_pos h1]; rfl
    · by_cases h2 : b < a
      · simp only [h1, h2, if_true, if_false]
      · simp only [h1, h2, if_false]; exact cmp_swap x y

/-- Whether the half goes up: by texts, by rows. -/
def halfT (n : Nat) : List UInt8 := 53 :: List.replicate (n - 1) 48
def halfR (n : Nat) : List Int := List.replicate (n - 1) 0 ++ [5]
def upP (odd : Bool) (rest : List UInt8) : Bool := decide (0 < Lib.compareBytes rest (halfT rest.length)) || (decide (Lib.compareBytes rest (halfT rest.length) = 0) && odd)
def upR (n : Nat) (odd : Bool) (low : List Int) : Bool := lessF n (halfR n) low || (!lessF n low (halfR n) && odd)
theorem halfR_row (n : Nat) : rowOf (halfT n) = halfR n := by
  unfold rowOf halfT halfR
  rw [List.reverse_cons, List.map_append, List.reverse_replicate, List.map_replicate]
  rfl
theorem halfT_len (n : Nat) (h : 1 ≤ n) : (halfT n).length = n := by
  unfold halfT
  rw [List.length_cons, List.length_replicate]; omega
theorem up_eq (odd : Bool) (rest : List UInt8) (h : 1 ≤ rest.length) : upR rest.length odd (rowOf rest) = upP odd rest := by
  unfold upR upP
  have hl := halfT_len rest.length h
  have h1 := less_cmp rest (halfT rest.length) hl.symm
  have h2 := less_cmp (halfT rest.length) rest hl
  rw [hl] at h2
  rw [← halfR_row, h1, h2, cmp_swap rest (halfT rest.length)]
  generalize Lib.compareBytes rest (halfT rest.length) = c
  have e1 : decide (-c < 0) = decide (0 < c) := decide_eq_decide.2 (by omega)
  rw [e1]
  by_cases h0 : 0 < c
  · rw [decide_eq_true h0]; rfl
  · by_cases h3 : c = 0
    · subst h3; rfl
    · rw [decide_eq_false h0, decide_eq_true (show c < 0 by omega), decide_eq_false h3]; rfl

/-- One more, the lowest first, with a last digit for what is carried. -/
def addT : List Int → Int → List Int
  | [], c => [c]
  | d :: r, c => (d + c) % 10 :: addT r ((d + c) / 10)
/-- The sum of rows, as long as there is something. -/
def plusQ : List Int → List Int → Int → List Int
  | [], [], c => if 0 < c then [c % 10] else []
  | [], b :: y, c => (b + c) % 10 :: plusQ [] y ((b + c) / 10)
  | a :: x, [], c => (a + c) % 10 :: plusQ x [] ((a + c) / 10)
  | a :: x, b :: y, c => (a + b + c) % 10 :: plusQ x y ((a + b + c) / 10)
def okR (l : List Int) : Prop := ∀ x ∈ l, 0 ≤ x ∧ x ≤ 9
theorem plusQ_addT : ∀ (l : List Int) (c : Int), okR l → 0 ≤ c → c ≤ 1 → addT l c = plusQ l [] c ∨ addT l c = plusQ l [] c ++ [0]
  | [], c, _, h0, h1 => by
    unfold addT plusQ
    by_cases h : 0 < c
    · left; rw [if_pos h]; congr 1; omega
    · right; rw [if_neg h]; have : c = 0 := by omega
      subst this; rfl
  | d :: r, c, ho, h0, h1 => by
    have hd := ho d (List.mem_cons_self)
    unfold addT plusQ
    rcases plusQ_addT r ((d + c) / 10) (fun x hx => ho x (List.mem_cons_of_mem _ hx)) (by omega) (by omega) with h | h
    · left; rw [h]
    · right; rw [h]; rfl
theorem plusQ_one (l : List Int) (h : okR l) : plusQ l [1] 0 = (if l = [] then [1] else plusQ l [] 1) := by
  cases l with
  | nil => simp [plusQ]
  | cons d r =>
    rw [if_neg (by simp)]
    unfold plusQ
    simp only [Int.add_zero]

/-- The noughts ahead go; one digit stays. -/
def canon (l : List UInt8) : List UInt8 := if l.dropWhile (· == 48) = [] then [48] else l.dropWhile (· == 48)
theorem canon_zero (l : List UInt8) : canon (48 :: l) = canon l := by
  unfold canon
  rw [List.dropWhile_cons_of_pos (by rfl)]
def madeN (row : List Int) : Nat → Nat
  | 0 => 0
  | 1 => 1
  | n + 2 => if atL row (n + 1) = 0 then madeN row (n + 1) else n + 2
theorem take_succ_rev (row : List Int) (n : Nat) (h : n < row.length) : (row.take (n + 1)).reverse = atL row n :: (row.take n).reverse := by
  rw [List.take_succ_eq_append_getElem h, List.reverse_append]
  unfold atL
  rw [List.getD_eq_getElem?_getD, List.getElem?_eq_getElem h]
  rfl
theorem toB_zero : toB 0 = 48 := by decide
theorem toB_ne (z : Int) (h0 : 0 ≤ z) (h9 : z ≤ 9) (h : z ≠ 0) : toB z ≠ 48 := by
  intro he
  have := congrArg UInt8.toNat he
  unfold toB at this
  rw [UInt8.toNat_ofNat'] at this
  change _ = 48 at this
  omega
theorem made_canon (row : List Int) (ho : okR row) : ∀ n, 1 ≤ n → n ≤ row.length → (row.take (madeN row n)).reverse.map toB = canon ((row.take n).reverse.map toB)
  | 0, h, _ => by omega
  | 1, _, h => by
    unfold madeN
    have e : (row.take 1).reverse = [atL row 0] := by
      rw [take_succ_rev row 0 h]; rfl
    rw [e]
    show [toB (atL row 0)] = canon [toB (atL row 0)]
    unfold canon
    by_cases hz : toB (atL row 0) = 48
    · rw [hz]; decide
    · rw [List.dropWhile_cons_of_neg (by simpa using hz), if_neg (by simp)]
  | n + 2, _, h => by
    unfold madeN
    rw [take_succ_rev row (n + 1) h]
    by_cases hz : atL row (n + 1) = 0
    · rw [if_pos hz, hz, List.map_cons, toB_zero, canon_zero]
      exact made_canon row ho (n + 1) (by omega) (by omega)
    · rw [if_neg hz, List.map_cons]
      have hm : atL row (n + 1) ∈ row := by
        unfold atL
        rw [List.getD_eq_getElem?_getD, List.getElem?_eq_getElem h]
        exact List.getElem_mem _
      have hb := toB_ne _ (ho _ hm).1 (ho _ hm).2 hz
      unfold canon
      rw [List.dropWhile_cons_of_neg (by simpa using hb), if_neg (by simp), take_succ_rev row (n + 1) h, List.map_cons]

/-- A text of digits with noughts ahead, n behind the point; what stands ahead of the point, and behind it. -/
def padT (n : Nat) (l : List UInt8) : List UInt8 := List.replicate (n + 1 - l.length) 48 ++ l
def keptT (n : Nat) (l : List UInt8) : List UInt8 := (padT n l).take ((padT n l).length - n)
def restT (n : Nat) (l : List UInt8) : List UInt8 := (padT n l).drop ((padT n l).length - n)
theorem padT_len (n : Nat) (l : List UInt8) : (padT n l).length = max (n + 1) l.length := by
  unfold padT
  rw [List.length_append, List.length_replicate]; omega
theorem restT_len (n : Nat) (l : List UInt8) : (restT n l).length = n := by
  unfold restT
  rw [List.length_drop, padT_len]; omega
theorem keptT_len (n : Nat) (l : List UInt8) : (keptT n l).length = max (n + 1) l.length - n := by
  unfold keptT
  rw [List.length_take, padT_len]; omega
theorem padT_eq (n : Nat) (l : List UInt8) : keptT n l ++ restT n l = padT n l := List.take_append_drop _ _
theorem rowOf_app (x y : List UInt8) : rowOf (x ++ y) = rowOf y ++ rowOf x := by simp [rowOf]
theorem rowOf_pad (n : Nat) (l : List UInt8) : rowOf (padT n l) = rowOf l ++ List.replicate (n + 1 - l.length) 0 := by
  unfold padT
  rw [rowOf_app]
  congr 1
  unfold rowOf
  rw [List.reverse_replicate, List.map_replicate]; rfl
theorem rest_row (n : Nat) (l : List UInt8) : rowOf (restT n l) = (rowOf (padT n l)).take n := by
  rw [← padT_eq, rowOf_app, List.take_left' (by rw [rowOf_len, restT_len])]
theorem kept_row (n : Nat) (l : List UInt8) : rowOf (keptT n l) = (rowOf (padT n l)).drop n := by
  rw [← padT_eq, rowOf_app, List.drop_left' (by rw [rowOf_len, restT_len])]
theorem atL_pad (a : List Int) (k i : Nat) : atL (a ++ List.replicate k 0) i = atL a i := by
  unfold atL
  rw [List.getD_eq_getElem?_getD, List.getD_eq_getElem?_getD]
  by_cases h : i < a.length
  · rw [List.getElem?_append_left h]
  · rw [List.getElem?_append_right (by omega), List.getElem?_eq_none (l := a) (by omega), List.getElem?_replicate]
    split <;> rfl
theorem range_at (r : List Int) (n : Nat) (h : n ≤ r.length) : (List.range n).map (atL r) = r.take n := by
  apply List.ext_getElem
  · rw [List.length_map, List.length_range, List.length_take]; omega
  · intro i h1 h2
    rw [List.getElem_map, List.getElem_range, List.getElem_take]
    unfold atL
    rw [List.length_map, List.length_range] at h1
    rw [List.getD_eq_getElem?_getD, List.getElem?_eq_getElem (by omega)]
    rfl
/-- The reference's parts of a row. -/
def lowR (row : List Int) (cut : Nat) : List Int := (List.range cut).map (atL row)
theorem low_eq (cut : Nat) (l : List UInt8) : lowR (rowOf l) cut = rowOf (restT cut l) := by
  rw [rest_row, ← range_at _ _ (by rw [rowOf_len, padT_len]; omega)]
  unfold lowR
  congr 1
  funext i
  rw [rowOf_pad, atL_pad]
theorem high_eq (cut : Nat) (l : List UInt8) : rowOf (keptT cut l) = (rowOf l).drop cut ∨ ((rowOf l).drop cut = [] ∧ rowOf (keptT cut l) = [0] ∧ keptT cut l = [48]) := by
  rw [kept_row, rowOf_pad]
  by_cases h : cut < l.length
  · left
    rw [show cut + 1 - l.length = 0 by omega]; simp
  · right
    have hd : (rowOf l).drop cut = [] := List.drop_eq_nil_of_le (by rw [rowOf_len]; omega)
    refine ⟨hd, ?_, ?_⟩
    · rw [List.drop_append, hd, rowOf_len, List.nil_append, List.drop_replicate, show cut + 1 - l.length - (cut - l.length) = 1 by omega]; rfl
    · unfold keptT
      rw [padT_len, show max (cut + 1) l.length - cut = 1 by omega]
      unfold padT
      rw [show cut + 1 - l.length = (cut - l.length) + 1 by omega, List.replicate_succ]; rfl

/-- Rounded, by texts and by rows. -/
def oddT (l : List UInt8) : Bool := decide (atL (rowOf l) 0 % 2 = 1)
def plus1 (l : List UInt8) : List UInt8 := (addT (rowOf l) 1).reverse.map toB
def roundP (cut : Nat) (l : List UInt8) : List UInt8 := canon (if upP (oddT (keptT cut l)) (restT cut l) then plus1 (keptT cut l) else keptT cut l)
def roundR (cut : Nat) (row : List Int) : List Int := if upR cut (decide (atL (row.drop cut) 0 % 2 = 1)) (lowR row cut) then plusQ (row.drop cut) [1] 0 else row.drop cut
def madeR (row : List Int) : List UInt8 := if row = [] then [48] else (row.take (madeN row row.length)).reverse.map toB
def okT (l : List UInt8) : Prop := ∀ b ∈ l, isD b
theorem okR_row (l : List UInt8) (h : okT l) : okR (rowOf l) := by
  intro x hx
  unfold rowOf at hx
  obtain ⟨b, hb, rfl⟩ := List.mem_map.1 hx
  have := h b (List.mem_reverse.1 hb)
  unfold isD at this
  unfold dig
  omega
theorem toB_dig (b : UInt8) : toB (dig b) = b := by
  unfold toB dig
  rw [show (b.toNat : Int) - 48 + 48 = b.toNat by omega, Int.toNat_natCast]
  exact UInt8.ofNat_toNat
theorem row_back (l : List UInt8) : (rowOf l).reverse.map toB = l := by
  unfold rowOf
  rw [← List.map_reverse, List.reverse_reverse, List.map_map]
  conv => rhs; rw [← List.map_id l]
  exact List.map_congr_left fun b _ => toB_dig b
theorem madeR_canon (row : List Int) (h : okR row) : madeR row = canon (row.reverse.map toB) := by
  unfold madeR
  by_cases h0 : row = []
  · rw [if_pos h0, h0]; rfl
  · rw [if_neg h0, made_canon row h _ (by cases row with | nil => exact absurd rfl h0 | cons a r => simp) (Nat.le_refl _), List.take_length]
theorem okR_addT : ∀ (l : List Int) (c : Int), okR l → 0 ≤ c → c ≤ 1 → okR (addT l c)
  | [], c, _, h0, h1 => by
    intro x hx
    unfold addT at hx
    obtain rfl : x = c := by simpa using hx
    omega
  | d :: r, c, h, h0, h1 => by
    have hd := h d List.mem_cons_self
    intro x hx
    unfold addT at hx
    rcases List.mem_cons.1 hx with rfl | hx
    · omega
    · exact okR_addT r _ (fun y hy => h y (List.mem_cons_of_mem _ hy)) (by omega) (by omega) x hx
theorem canon_add (l : List Int) (h : okR l) : canon ((addT l 1).reverse.map toB) = canon ((plusQ l [] 1).reverse.map toB) := by
  rcases plusQ_addT l 1 h (by omega) (by omega) with e | e
  · rw [e]
  · rw [e, List.reverse_append]
    show canon (toB 0 :: _) = _
    rw [toB_zero]
    exact canon_zero _
theorem okR_plusQ (l : List Int) (h : okR l) : okR (plusQ l [] 1) := by
  have := okR_addT l 1 h (by omega) (by omega)
  rcases plusQ_addT l 1 h (by omega) (by omega) with e | e
  · rwa [e] at this
  · rw [e] at this; exact fun x hx => this x (List.mem_append_left _ hx)
theorem okR_drop (l : List Int) (n : Nat) (h : okR l) : okR (l.drop n) := fun x hx => h x (List.mem_of_mem_drop hx)
theorem round_eq (cut : Nat) (l : List UInt8) (h : okT l) (hc : 1 ≤ cut) : madeR (roundR cut (rowOf l)) = roundP cut l := by
  have ho := okR_drop _ cut (okR_row l h)
  have hu : upR cut (decide (atL ((rowOf l).drop cut) 0 % 2 = 1)) (lowR (rowOf l) cut) = upP (oddT (keptT cut l)) (restT cut l) := by
    rw [low_eq]
    have := up_eq (decide (atL ((rowOf l).drop cut) 0 % 2 = 1)) (restT cut l) (by rw [restT_len]; exact hc)
    rw [restT_len] at this
    rw [this]
    congr 1
    unfold oddT
    rcases high_eq cut l with e | ⟨e1, e2, _⟩
    · rw [e]
    · rw [e1, e2]; rfl
  unfold roundR roundP
  rw [hu]
  cases upP (oddT (keptT cut l)) (restT cut l)
  · rw [if_neg (by decide), if_neg (by decide), madeR_canon _ ho]
    rcases high_eq cut l with e | ⟨e1, _, e3⟩
    · rw [← e, row_back]
    · rw [e1, e3]; rfl
  · rw [if_pos rfl, if_pos rfl, plusQ_one _ ho]
    unfold plus1
    rcases high_eq cut l with e | ⟨e1, e2, _⟩
    · rw [e]
      by_cases h0 : (rowOf l).drop cut = []
      · rw [if_pos h0, h0]; decide
      · rw [if_neg h0, madeR_canon _ (okR_plusQ _ ho), canon_add _ ho]
    · rw [if_pos e1, e2]; decide

/-- Noughts taken off the end: of a decimal, of what stands behind the point. -/
def trimL : Nat → List UInt8 → Nat → List UInt8 × Nat
  | 0, l, _ => (l, 0)
  | s + 1, l, least => if least < s + 1 ∧ l.getLast? = some 48 then trimL s (if 1 < l.length then l.dropLast else l) least else (l, s + 1)
def stripL (least : Nat) : Nat → List UInt8 → List UInt8
  | 0, f => f
  | n + 1, f => if least < f.length ∧ f.getLast? = some 48 then stripL least n f.dropLast else f
theorem pad_drop (s : Nat) (l : List UInt8) (h : l ≠ []) (hz : l.getLast? = some 48) : padT s (if 1 < l.length then l.dropLast else l) = (padT (s + 1) l).dropLast := by
  by_cases h1 : 1 < l.length
  · rw [if_pos h1]
    unfold padT
    rw [List.length_dropLast, show s + 1 - (l.length - 1) = s + 1 + 1 - l.length by omega, List.dropLast_append_of_ne_nil h]
  · rw [if_neg h1]
    obtain ⟨a, rfl⟩ : ∃ a, l = [a] := by
      match l, h, h1 with
      | [a], _, _ => exact ⟨a, rfl⟩
      | _ :: _ :: _, _, h1 => simp at h1
    obtain rfl : a = 48 := by simpa using hz
    unfold padT
    show List.replicate (s + 1 - 1) (48 : UInt8) ++ [48] = (List.replicate (s + 1 + 1 - 1) (48 : UInt8) ++ [48]).dropLast
    rw [List.dropLast_concat, show s + 1 + 1 - 1 = s + 1 - 1 + 1 by omega, List.replicate_succ']
theorem rest_last (s : Nat) (l : List UInt8) (h : l ≠ []) : (restT (s + 1) l).getLast? = l.getLast? := by
  have hr : restT (s + 1) l ≠ [] := by
    intro e
    have := restT_len (s + 1) l
    rw [e] at this; cases this
  have e1 : (padT (s + 1) l).getLast? = (restT (s + 1) l).getLast? := by
    rw [← padT_eq]
    rw [List.getLast?_append]
    cases hx : (restT (s + 1) l).getLast? with
    | none => exact absurd (List.getLast?_eq_none_iff.1 hx) hr
    | some v => rfl
  have e2 : (padT (s + 1) l).getLast? = l.getLast? := by
    unfold padT
    rw [List.getLast?_append]
    cases hx : l.getLast? with
    | none => exact absurd (List.getLast?_eq_none_iff.1 hx) h
    | some v => rfl
  rw [← e1, e2]
theorem trim_strip (least : Nat) : ∀ (s : Nat) (l : List UInt8), l ≠ [] → keptT (trimL s l least).2 (trimL s l least).1 = keptT s l ∧ restT (trimL s l least).2 (trimL s l least).1 = stripL least s (restT s l)
  | 0, l, _ => ⟨rfl, rfl⟩
  | s + 1, l, h => by
    unfold trimL stripL
    rw [restT_len, rest_last s l h]
    by_cases hc : least < s + 1 ∧ l.getLast? = some 48
    · rw [if_pos hc, if_pos hc]
      have hn : (if 1 < l.length then l.dropLast else l) ≠ [] := by
        split
        · rename_i h1
          intro e
          have := congrArg List.length e
          rw [List.length_dropLast] at this
          simp at this; omega
        · exact h
      have hp := pad_drop s l h hc.2
      obtain ⟨h1, h2⟩ := trim_strip least s _ hn
      rw [h1, h2]
      generalize (if 1 < l.length then l.dropLast else l) = l' at *
      have hlen := padT_len (s + 1) l
      have e1 : keptT s l' = keptT (s + 1) l := by
        unfold keptT
        rw [hp, List.length_dropLast, List.dropLast_eq_take, List.take_take]
        congr 1; omega
      have e2 : restT s l' = (restT (s + 1) l).dropLast := by
        unfold restT
        rw [hp, List.length_dropLast, List.dropLast_eq_take, List.dropLast_eq_take, List.drop_take, List.length_drop, hlen]
        congr 1
        · omega
        · congr 1; omega
      rw [e1, e2]
      exact ⟨rfl, rfl⟩
    · rw [if_neg hc, if_neg hc]
      exact ⟨rfl, rfl⟩

/-- The reference's print, of a row, from a place down. -/
def prL (row : List Int) (sc : Int) : Nat → List UInt8
  | 0 => []
  | k + 1 => toB (atL row k) :: (if (k : Int) = sc ∧ 0 < k then 46 :: prL row sc k else prL row sc k)
theorem prL_low (row : List Int) (sc : Nat) : ∀ k, k ≤ sc → k ≤ row.length → prL row sc k = (row.take k).reverse.map toB
  | 0, _, _ => rfl
  | k + 1, h, hl => by
    unfold prL
    rw [if_neg (by omega), take_succ_rev row k hl, List.map_cons, prL_low row sc k (by omega) (by omega)]
theorem prL_high (row : List Int) (sc : Nat) (hs : 0 < sc) : ∀ k, sc < k → k ≤ row.length → prL row sc k = ((row.take k).reverse.take (k - sc)).map toB ++ 46 :: ((row.take sc).reverse.map toB)
  | 0, h, _ => by omega
  | k + 1, h, hl => by
    unfold prL
    rw [take_succ_rev row k hl, show k + 1 - sc = (k - sc) + 1 by omega, List.take_succ_cons, List.map_cons]
    by_cases hk : k = sc
    · subst hk
      rw [if_pos ⟨rfl, hs⟩, prL_low row k k (Nat.le_refl _) (by omega), Nat.sub_self]; rfl
    · rw [if_neg (by omega), prL_high row sc hs k (by omega) (by omega)]; rfl
theorem prL_zero (row : List Int) : ∀ k, k ≤ row.length → prL row 0 k = (row.take k).reverse.map toB
  | 0, _ => rfl
  | k + 1, hl => by
    unfold prL
    rw [if_neg (by omega), take_succ_rev row k hl, List.map_cons, prL_zero row k (by omega)]
/-- A decimal's text. -/
def textD (l : List UInt8) (sc : Nat) : List UInt8 := if 0 < sc then keptT sc l ++ 46 :: restT sc l else l
theorem pr_text (l : List UInt8) (sc : Nat) (h : l ≠ []) : prL (rowOf (padT sc l)) sc (padT sc l).length = textD l sc := by
  unfold textD
  have hl : (rowOf (padT sc l)).length = (padT sc l).length := rowOf_len _
  by_cases hs : 0 < sc
  · rw [if_pos hs, prL_high _ _ hs _ (by rw [padT_len]; omega) (by rw [hl]; exact Nat.le_refl _), ← rest_row, row_back]
    rw [show (rowOf (padT sc l)).take (padT sc l).length = rowOf (padT sc l) by rw [← hl, List.take_length], List.map_take, row_back]; rfl
  · obtain rfl : sc = 0 := by omega
    rw [if_neg (by omega)]
    have hp : padT 0 l = l := by
      unfold padT
      have : 1 ≤ l.length := by cases l with | nil => exact absurd rfl h | cons a r => simp
      rw [show 0 + 1 - l.length = 0 by omega]; rfl
    rw [hp] at hl ⊢
    show prL (rowOf l) 0 l.length = l
    rw [prL_zero _ _ (by rw [hl]; exact Nat.le_refl _), ← hl, List.take_length, row_back]
end Go.Proofs.YtkkglaglnfebjaaDoor

namespace Go.Proofs.YtkkglaglnfebjaaDoor

/-- The program's sum of rows of one length. -/
def sumR : List Int → List Int → Int → List Int
  | a :: x, b :: y, c => (a + b + c) % 10 :: sumR x y ((a + b + c) / 10)
  | _, _, c => [c]
theorem sumR_zero : ∀ (l : List Int) (c : Int), sumR l (List.replicate l.length 0) c = addT l c
  | [], c => rfl
  | d :: r, c => by
    show (d + 0 + c) % 10 :: sumR r (List.replicate r.length 0) ((d + 0 + c) / 10) = (d + c) % 10 :: addT r ((d + c) / 10)
    rw [sumR_zero r, Int.add_zero]
theorem sumR_one (l : List Int) (h : l ≠ []) : sumR l (1 :: List.replicate (l.length - 1) 0) 0 = addT l 1 := by
  cases l with
  | nil => exact absurd rfl h
  | cons d r =>
    show (d + 1 + 0) % 10 :: sumR r (List.replicate (r.length + 1 - 1) 0) ((d + 1 + 0) / 10) = (d + 1) % 10 :: addT r ((d + 1) / 10)
    rw [show r.length + 1 - 1 = r.length by omega, sumR_zero r, Int.add_zero]
theorem sumR_len : ∀ (x y : List Int) (c : Int), x.length = y.length → (sumR x y c).length = x.length + 1
  | [], [], _, _ => rfl
  | a :: x, b :: y, c, h => by
    show (sumR x y _).length + 1 = x.length + 1 + 1
    rw [sumR_len x y _ (by simpa using h)]
  | [], _ :: _, _, h => by cases h
  | _ :: _, [], _, h => by cases h
theorem drop_at (l : List Int) (i : Nat) (h : i < l.length) : l.drop i = atL l i :: l.drop (i + 1) := by
  rw [List.drop_eq_getElem_cons h]
  unfold atL
  rw [List.getD_eq_getElem?_getD, List.getElem?_eq_getElem h]; rfl
theorem atL_out (l : List Int) (i : Nat) (h : l.length ≤ i) : atL l i = 0 := by
  unfold atL
  rw [List.getD_eq_getElem?_getD, List.getElem?_eq_none h]; rfl
theorem sumR_step (x y : List Int) (i : Nat) (c : Int) (hx : i < x.length) (hy : i < y.length) :
    sumR (x.drop i) (y.drop i) c = (atL x i + atL y i + c) % 10 :: sumR (x.drop (i + 1)) (y.drop (i + 1)) ((atL x i + atL y i + c) / 10) := by
  rw [drop_at x i hx, drop_at y i hy]; rfl
theorem sumR_end (x y : List Int) (i : Nat) (c : Int) (hx : x.length ≤ i) : sumR (x.drop i) (y.drop i) c = [c] := by
  rw [List.drop_eq_nil_of_le hx]
  cases y.drop i <;> rfl
theorem plusQ_go (a b : List Int) (i : Nat) (c : Int) (h0 : 0 ≤ c) (h1 : c ≤ 9) (h : i < a.length ∨ i < b.length ∨ 0 < c) :
    plusQ (a.drop i) (b.drop i) c = (atL a i + atL b i + c) % 10 :: plusQ (a.drop (i + 1)) (b.drop (i + 1)) ((atL a i + atL b i + c) / 10) := by
  by_cases ha : i < a.length
  · rw [drop_at a i ha]
    by_cases hb : i < b.length
    · rw [drop_at b i hb, plusQ]
    · rw [List.drop_eq_nil_of_le (show b.length ≤ i by omega), List.drop_eq_nil_of_le (show b.length ≤ i + 1 by omega), atL_out b i (by omega), Int.add_zero, plusQ]
  · rw [List.drop_eq_nil_of_le (show a.length ≤ i by omega), List.drop_eq_nil_of_le (show a.length ≤ i + 1 by omega), atL_out a i (by omega), Int.zero_add]
    by_cases hb : i < b.length
    · rw [drop_at b i hb, plusQ]
    · rw [List.drop_eq_nil_of_le (show b.length ≤ i by omega), List.drop_eq_nil_of_le (show b.length ≤ i + 1 by omega), atL_out b i (by omega), Int.zero_add]
      unfold plusQ
      rw [if_pos (by omega), if_neg (by omega)]
theorem plusQ_stop (a b : List Int) (i : Nat) (c : Int) (ha : a.length ≤ i) (hb : b.length ≤ i) (hc : c ≤ 0) : plusQ (a.drop i) (b.drop i) c = [] := by
  rw [List.drop_eq_nil_of_le ha, List.drop_eq_nil_of_le hb]
  unfold plusQ
  rw [if_neg (by omega)]
theorem atL_ok (l : List Int) (h : okR l) (i : Nat) : 0 ≤ atL l i ∧ atL l i ≤ 9 := by
  by_cases hi : i < l.length
  · have hm : atL l i ∈ l := by
      unfold atL
      rw [List.getD_eq_getElem?_getD, List.getElem?_eq_getElem hi]
      exact List.getElem_mem _
    exact h _ hm
  · rw [atL_out l i (by omega)]; omega
theorem take_at (l : List Int) (i : Nat) (h : i < l.length) : l.take (i + 1) = l.take i ++ [atL l i] := by
  rw [List.take_succ_eq_append_getElem h]
  unfold atL
  rw [List.getD_eq_getElem?_getD, List.getElem?_eq_getElem h]; rfl
theorem rowOf_at (l : List UInt8) (i : Nat) (h : i < l.length) : atL (rowOf l) i = dig (l[l.length - 1 - i]'(by omega)) := by
  unfold atL rowOf
  rw [List.getD_eq_getElem?_getD, List.getElem?_map, List.getElem?_reverse h, List.getElem?_eq_getElem (by omega)]; rfl
theorem rowOf_take (l : List UInt8) (i : Nat) (h : i < l.length) : (rowOf l).take (i + 1) = (rowOf l).take i ++ [dig (l[l.length - 1 - i]'(by omega))] := by
  rw [take_at _ _ (by rw [rowOf_len]; exact h), rowOf_at l i h]

/-- A row of bytes that is filled from its end. -/
def fillB (m : Nat) (l : List UInt8) : List UInt8 := List.replicate m 0 ++ l
theorem fillB_len (m : Nat) (l : List UInt8) : (fillB m l).length = m + l.length := by
  unfold fillB
  rw [List.length_append, List.length_replicate]
theorem fillB_set (m : Nat) (l : List UInt8) (b : UInt8) : (fillB (m + 1) l).set m b = fillB m (b :: l) := by
  unfold fillB
  rw [List.replicate_succ', List.append_assoc, List.set_append_right _ _ (by rw [List.length_replicate]; exact Nat.le_refl _), List.length_replicate, Nat.sub_self]; rfl
theorem fillB_zero (l : List UInt8) : fillB 0 l = l := rfl
end Go.Proofs.YtkkglaglnfebjaaDoor
