/- A text that is right stays so in its quotes. Plain Lean, no walk. -/
import Derived.Test.YtjldgcpmdcoejaaGreatDoorDT
namespace Go.Proofs.YtjldgcpmdcoejaaGreatDoor
open Go.RowKit

inductive Ok : List UInt8 → Prop
  | nil : Ok []
  | one {a : UInt8} {l : List UInt8} : a.toNat < 128 → Ok l → Ok (a :: l)
  | two {a b : UInt8} {l : List UInt8} : (formN 2 a.toNat b.toNat 0 0).2 = 2 → Ok l → Ok (a :: b :: l)
  | three {a b c : UInt8} {l : List UInt8} : (formN 3 a.toNat b.toNat c.toNat 0).2 = 3 → Ok l → Ok (a :: b :: c :: l)
  | four {a b c d : UInt8} {l : List UInt8} : (formN 4 a.toNat b.toNat c.toNat d.toNat).2 = 4 → Ok l → Ok (a :: b :: c :: d :: l)
theorem f2 {a b : Nat} (h : (formN 2 a b 0 0).2 = 2) : 128 ≤ a ∧ 128 ≤ b ∧ ∀ n c d, 2 ≤ n → ¬ (formN n a b c d).1 < 0 ∧ (formN n a b c d).2 = 2 := by
  unfold formN at h
  have h1 : 194 ≤ a ∧ a ≤ 223 ∧ b / 64 = 2 := by
    repeat' split at h
    all_goals first | (exfalso; revert h; decide) | omega | (exfalso; simp at h; done)
  refine ⟨by omega, by omega, fun n c d hn => ?_⟩
  unfold formN
  rw [if_neg (by omega), if_neg (by omega), if_pos (by omega), if_neg (by omega), if_neg (by omega)]
  exact ⟨by simp only; omega, rfl⟩
theorem f3 {a b c : Nat} (h : (formN 3 a b c 0).2 = 3) : 128 ≤ a ∧ 128 ≤ b ∧ 128 ≤ c ∧ ∀ n d, 3 ≤ n → ¬ (formN n a b c d).1 < 0 ∧ (formN n a b c d).2 = 3 := by
  unfold formN at h
  have h1 : 224 ≤ a ∧ a ≤ 239 ∧ b / 64 = 2 ∧ c / 64 = 2 ∧ ¬ (a % 16 * 4096 + b % 64 * 64 + c % 64 < 2048 ∨ (55296 ≤ a % 16 * 4096 + b % 64 * 64 + c % 64 ∧ a % 16 * 4096 + b % 64 * 64 + c % 64 ≤ 57343)) := by
    repeat' split at h
    all_goals first | (exfalso; revert h; decide) | omega | (exfalso; simp at h; done)
  refine ⟨by omega, by omega, by omega, fun n d hn => ?_⟩
  unfold formN
  rw [if_neg (by omega), if_neg (by omega), if_neg (by omega), if_pos (by omega), if_neg (by omega), if_neg (by omega), if_neg (by omega), if_neg h1.2.2.2.2]
  exact ⟨by simp only; omega, rfl⟩
theorem f4 {a b c d : Nat} (h : (formN 4 a b c d).2 = 4) : 128 ≤ a ∧ 128 ≤ b ∧ 128 ≤ c ∧ 128 ≤ d ∧ ∀ n, 4 ≤ n → ¬ (formN n a b c d).1 < 0 ∧ (formN n a b c d).2 = 4 := by
  unfold formN at h
  have h1 : 240 ≤ a ∧ a ≤ 244 ∧ b / 64 = 2 ∧ c / 64 = 2 ∧ d / 64 = 2 ∧ ¬ (a % 8 * 262144 + b % 64 * 4096 + c % 64 * 64 + d % 64 < 65536 ∨ 1114111 < a % 8 * 262144 + b % 64 * 4096 + c % 64 * 64 + d % 64) := by
    repeat' split at h
    all_goals first | (exfalso; revert h; decide) | omega | (exfalso; simp at h; done)
  refine ⟨by omega, by omega, by omega, by omega, fun n hn => ?_⟩
  unfold formN
  rw [if_neg (by omega), if_neg (by omega), if_neg (by omega), if_neg (by omega), if_pos (by omega), if_neg (by omega), if_neg (by omega), if_neg (by omega), if_neg (by omega), if_neg h1.2.2.2.2.2]
  exact ⟨by simp only; omega, rfl⟩
theorem at_drop {s : ByteArray} {i : Nat} {a : UInt8} {l : List UInt8} (h : s.data.toList.drop i = a :: l) : i < s.size ∧ s.get! i = a ∧ s.data.toList.drop (i + 1) = l ∧ s.size - i = l.length + 1 := by
  have hl : i < s.data.toList.length := by
    rcases Nat.lt_or_ge i s.data.toList.length with h1 | h1
    · exact h1
    · rw [List.drop_of_length_le h1] at h; cases h
  have hp : i < s.size := by rw [size_len] at hl; exact hl
  have hlen := congrArg List.length h
  rw [List.length_drop, size_len, List.length_cons] at hlen
  rw [List.drop_eq_getElem_cons hl] at h
  injection h with h1 h2
  exact ⟨hp, by rw [get!_eq s i hp]; exact h1, h2, by omega⟩
theorem ok_brk {l : List UInt8} (h : Ok l) : ∀ (s : ByteArray) (i : Nat), s.data.toList.drop i = l → brkAt s i = -1 := by
  induction h with
  | nil =>
    intro s i hd
    refine brkAt_end s i ?_
    have := congrArg List.length hd
    rw [List.length_drop, size_len, List.length_nil] at this
    omega
  | @one a l ha _ ih =>
    intro s i hd
    obtain ⟨h1, h2, h3, h4⟩ := at_drop hd
    have hf : formD s i = ((a.toNat : Int), 1) := by rw [formD_one (by rw [h2]; exact ha), h2]
    rw [brkAt_next s i h1 (by rw [hf]; simp only; omega), hf]
    exact ih s (i + 1) h3
  | @two a b l hx _ ih =>
    intro s i hd
    obtain ⟨h1, h2, h3, h4⟩ := at_drop hd
    obtain ⟨g1, g2, g3, g4⟩ := at_drop h3
    obtain ⟨_, _, hf⟩ := f2 hx
    have hf := hf (s.size - i) (s.get! (i + 2)).toNat (s.get! (i + 3)).toNat (by omega)
    have e : formD s i = formN (s.size - i) a.toNat b.toNat (s.get! (i + 2)).toNat (s.get! (i + 3)).toNat := by rw [formD_N, h2, g2]
    rw [← e] at hf
    rw [brkAt_next s i h1 hf.1, hf.2]
    exact ih s (i + 2) g3
  | @three a b c l hx _ ih =>
    intro s i hd
    obtain ⟨h1, h2, h3, h4⟩ := at_drop hd
    obtain ⟨g1, g2, g3, g4⟩ := at_drop h3
    obtain ⟨k1, k2, k3, k4⟩ := at_drop g3
    obtain ⟨_, _, _, hf⟩ := f3 hx
    have hf := hf (s.size - i) (s.get! (i + 3)).toNat (by omega)
    have e : formD s i = formN (s.size - i) a.toNat b.toNat c.toNat (s.get! (i + 3)).toNat := by rw [formD_N, h2, g2, k2]
    rw [← e] at hf
    rw [brkAt_next s i h1 hf.1, hf.2]
    exact ih s (i + 3) k3
  | @four a b c d l hx _ ih =>
    intro s i hd
    obtain ⟨h1, h2, h3, h4⟩ := at_drop hd
    obtain ⟨g1, g2, g3, g4⟩ := at_drop h3
    obtain ⟨k1, k2, k3, k4⟩ := at_drop g3
    obtain ⟨m1, m2, m3, m4⟩ := at_drop k3
    obtain ⟨_, _, _, _, hf⟩ := f4 hx
    have hf := hf (s.size - i) (by omega)
    have e : formD s i = formN (s.size - i) a.toNat b.toNat c.toNat d.toNat := by rw [formD_N, h2, g2, k2, m2]
    rw [← e] at hf
    rw [brkAt_next s i h1 hf.1, hf.2]
    exact ih s (i + 4) m3
theorem app_ok {A B : List UInt8} (hA : Ok A) (hB : Ok B) : Ok (A ++ B) := by
  induction hA with
  | nil => exact hB
  | one h _ ih => exact .one h ih
  | two h _ ih => exact .two h ih
  | three h _ ih => exact .three h ih
  | four h _ ih => exact .four h ih
theorem big39 {a : UInt8} (h : 128 ≤ a.toNat) : a ≠ 39 := fun e => by rw [e] at h; revert h; decide
theorem dbl_ok {l : List UInt8} (h : Ok l) : Ok (dbl l) := by
  induction h with
  | nil => exact .nil
  | @one a l h _ ih =>
    rw [dbl_cons]
    split
    · exact .one (by decide) (.one (by decide) ih)
    · exact .one h ih
  | two h _ ih =>
    obtain ⟨h1, h2, _⟩ := f2 h
    rw [dbl_cons, dbl_cons, if_neg (big39 h1), if_neg (big39 h2)]
    exact .two h ih
  | three h _ ih =>
    obtain ⟨h1, h2, h3, _⟩ := f3 h
    rw [dbl_cons, dbl_cons, dbl_cons, if_neg (big39 h1), if_neg (big39 h2), if_neg (big39 h3)]
    exact .three h ih
  | four h _ ih =>
    obtain ⟨h1, h2, h3, h4, _⟩ := f4 h
    rw [dbl_cons, dbl_cons, dbl_cons, dbl_cons, if_neg (big39 h1), if_neg (big39 h2), if_neg (big39 h3), if_neg (big39 h4)]
    exact .four h ih
theorem split_ok {l : List UInt8} (h : Ok l) : ∀ (A : List UInt8) (m : UInt8) (R : List UInt8), l = A ++ m :: R → m.toNat < 128 → Ok A ∧ Ok (m :: R) := by
  induction h with
  | nil => intro A m R h; simp at h
  | @one a l ha hl ih =>
    intro A m R h hm
    match A, h with
    | [], h => exact ⟨.nil, by rw [show m :: R = a :: l from h.symm]; exact .one ha hl⟩
    | x :: A, h =>
      injection h with e1 e2
      subst e1
      obtain ⟨h1, h2⟩ := ih A m R e2 hm
      exact ⟨.one ha h1, h2⟩
  | @two a b l hx hl ih =>
    intro A m R h hm
    obtain ⟨g1, g2, _⟩ := f2 hx
    match A, h with
    | [], h => injection h with e1 e2; subst e1; omega
    | [x], h => injection h with e1 e2; injection e2 with e2 e3; subst e2; omega
    | x :: y :: A, h =>
      injection h with e1 e2
      injection e2 with e2 e3
      subst e1; subst e2
      obtain ⟨h1, h2⟩ := ih A m R e3 hm
      exact ⟨.two hx h1, h2⟩
  | @three a b c l hx hl ih =>
    intro A m R h hm
    obtain ⟨g1, g2, g3, _⟩ := f3 hx
    match A, h with
    | [], h => injection h with e1 e2; subst e1; omega
    | [x], h => injection h with e1 e2; injection e2 with e2 e3; subst e2; omega
    | [x, y], h => injection h with e1 e2; injection e2 with e2 e3; injection e3 with e3 e4; subst e3; omega
    | x :: y :: z :: A, h =>
      injection h with e1 e2
      injection e2 with e2 e3
      injection e3 with e3 e4
      subst e1; subst e2; subst e3
      obtain ⟨h1, h2⟩ := ih A m R e4 hm
      exact ⟨.three hx h1, h2⟩
  | @four a b c d l hx hl ih =>
    intro A m R h hm
    obtain ⟨g1, g2, g3, g4, _⟩ := f4 hx
    match A, h with
    | [], h => injection h with e1 e2; subst e1; omega
    | [x], h => injection h with e1 e2; injection e2 with e2 e3; subst e2; omega
    | [x, y], h => injection h with e1 e2; injection e2 with e2 e3; injection e3 with e3 e4; subst e3; omega
    | [x, y, z], h => injection h with e1 e2; injection e2 with e2 e3; injection e3 with e3 e4; injection e4 with e4 e5; subst e4; omega
    | x :: y :: z :: t :: A, h =>
      injection h with e1 e2
      injection e2 with e2 e3
      injection e3 with e3 e4
      injection e4 with e4 e5
      subst e1; subst e2; subst e3; subst e4
      obtain ⟨h1, h2⟩ := ih A m R e5 hm
      exact ⟨.four hx h1, h2⟩
theorem form_ways (n a b c d : Nat) (h : ¬ (formN n a b c d).1 < 0) :
    (a < 128 ∧ (formN n a b c d).2 = 1) ∨ (2 ≤ n ∧ (formN 2 a b 0 0).2 = 2 ∧ (formN n a b c d).2 = 2) ∨ (3 ≤ n ∧ (formN 3 a b c 0).2 = 3 ∧ (formN n a b c d).2 = 3) ∨ (4 ≤ n ∧ (formN 4 a b c d).2 = 4 ∧ (formN n a b c d).2 = 4) := by
  unfold formN at h ⊢
  by_cases a0 : a < 128
  · left; rw [if_pos a0]; exact ⟨a0, rfl⟩
  by_cases a1 : a < 194
  · rw [if_neg a0, if_pos a1] at h; exact absurd (by decide) h
  by_cases a2 : a ≤ 223
  · rw [if_neg a0, if_neg a1, if_pos a2] at h
    by_cases n2 : n < 2
    · rw [if_pos n2] at h; exact absurd (by decide) h
    by_cases b2 : b / 64 ≠ 2
    · rw [if_neg n2, if_pos b2] at h; exact absurd (by decide) h
    right; left
    rw [if_neg a0, if_neg a1, if_pos a2, if_neg (by omega), if_neg b2, if_neg a0, if_neg a1, if_pos a2, if_neg n2]
    exact ⟨by omega, rfl, rfl⟩
  by_cases a3 : a ≤ 239
  · rw [if_neg a0, if_neg a1, if_neg a2, if_pos a3] at h
    by_cases n2 : n < 3
    · rw [if_pos n2] at h; exact absurd (by decide) h
    by_cases b2 : b / 64 ≠ 2
    · rw [if_neg n2, if_pos b2] at h; exact absurd (by decide) h
    by_cases c2 : c / 64 ≠ 2
    · rw [if_neg n2, if_neg b2, if_pos c2] at h; exact absurd (by decide) h
    rw [if_neg n2, if_neg b2, if_neg c2] at h
    split at h
    · exact absurd (by decide) h
    · rename_i hv
      right; right; left
      rw [if_neg a0, if_neg a1, if_neg a2, if_pos a3, if_neg (by omega), if_neg b2, if_neg c2, if_neg hv, if_neg a0, if_neg a1, if_neg a2, if_pos a3, if_neg n2]
      exact ⟨by omega, rfl, rfl⟩
  by_cases a4 : a ≤ 244
  · rw [if_neg a0, if_neg a1, if_neg a2, if_neg a3, if_pos a4] at h
    by_cases n2 : n < 4
    · rw [if_pos n2] at h; exact absurd (by decide) h
    by_cases b2 : b / 64 ≠ 2
    · rw [if_neg n2, if_pos b2] at h; exact absurd (by decide) h
    by_cases c2 : c / 64 ≠ 2
    · rw [if_neg n2, if_neg b2, if_pos c2] at h; exact absurd (by decide) h
    by_cases d2 : d / 64 ≠ 2
    · rw [if_neg n2, if_neg b2, if_neg c2, if_pos d2] at h; exact absurd (by decide) h
    rw [if_neg n2, if_neg b2, if_neg c2, if_neg d2] at h
    split at h
    · exact absurd (by decide) h
    · rename_i hv
      right; right; right
      rw [if_neg a0, if_neg a1, if_neg a2, if_neg a3, if_pos a4, if_neg (by omega), if_neg b2, if_neg c2, if_neg d2, if_neg hv, if_neg a0, if_neg a1, if_neg a2, if_neg a3, if_pos a4, if_neg n2]
      exact ⟨by omega, rfl, rfl⟩
  · rw [if_neg a0, if_neg a1, if_neg a2, if_neg a3, if_neg a4] at h; exact absurd (by decide) h
theorem drop_get (s : ByteArray) (i : Nat) (h : i < s.size) : s.data.toList.drop i = s.get! i :: s.data.toList.drop (i + 1) := by
  have hl : i < s.data.toList.length := by rw [size_len]; exact h
  rw [List.drop_eq_getElem_cons hl, get!_eq s i h]
  rfl
theorem ok_of (s : ByteArray) : ∀ (f i : Nat), s.size ≤ i + f → i ≤ s.size → brkAt s i < 0 → Ok (s.data.toList.drop i)
  | 0, i, h1, h2, _ => by
    rw [List.drop_of_length_le (by rw [size_len]; omega)]
    exact .nil
  | f + 1, i, h1, h2, hb => by
    by_cases hi : i < s.size
    · have hn : ¬ (formD s i).1 < 0 := fun h => by rw [brkAt_bad s i hi h] at hb; omega
      rw [brkAt_next s i hi hn] at hb
      have hw := formD_wide s i hi
      rw [formD_N] at hn hb hw
      rcases form_ways _ _ _ _ _ hn with ⟨h3, h4⟩ | ⟨h3, h4, h5⟩ | ⟨h3, h4, h5⟩ | ⟨h3, h4, h5⟩
      · rw [h4] at hb
        rw [drop_get s i hi]
        exact .one h3 (ok_of s f (i + 1) (by omega) (by omega) hb)
      · rw [h5] at hb
        rw [drop_get s i hi, drop_get s (i + 1) (by omega)]
        exact .two h4 (ok_of s f (i + 2) (by omega) (by omega) hb)
      · rw [h5] at hb
        rw [drop_get s i hi, drop_get s (i + 1) (by omega), drop_get s (i + 1 + 1) (by omega)]
        exact .three h4 (ok_of s f (i + 3) (by omega) (by omega) hb)
      · rw [h5] at hb
        rw [drop_get s i hi, drop_get s (i + 1) (by omega), drop_get s (i + 1 + 1) (by omega), drop_get s (i + 1 + 1 + 1) (by omega)]
        exact .four h4 (ok_of s f (i + 4) (by omega) (by omega) hb)
    · rw [List.drop_of_length_le (by rw [size_len]; omega)]
      exact .nil
theorem spec_small {h : Bool} {m : UInt8} (hm : specB h m = true) : m.toNat < 128 := by
  simp only [specB, Bool.or_eq_true, Bool.and_eq_true, beq_iff_eq] at hm
  rcases hm with (rfl | rfl) | ⟨rfl, _⟩ <;> decide
theorem last_byte {c : UInt8 → Bool} {l : List UInt8} (h : l.any c = true) : ∃ X z, l.take (lastN c l) = X ++ [z] ∧ c z = true := by
  have h1 := first_last h
  have h2 := lastN_le c l
  have hr : l.reverse.findIdx c < l.reverse.length := by
    obtain ⟨x, hx, hc⟩ := List.any_eq_true.1 h
    exact List.findIdx_lt_length.2 ⟨x, List.mem_reverse.2 hx, hc⟩
  have hp := List.findIdx_getElem (w := hr)
  rw [List.getElem_reverse] at hp
  rw [List.length_reverse] at hr
  have hk : lastN c l - 1 < l.length := by omega
  have hz : c (l[lastN c l - 1]'hk) = true := by
    have e : lastN c l - 1 = l.length - 1 - l.reverse.findIdx c := by unfold lastN; omega
    simpa [e] using hp
  refine ⟨l.take (lastN c l - 1), l[lastN c l - 1]'hk, ?_, hz⟩
  have := List.take_succ_eq_append_getElem hk
  rw [show lastN c l - 1 + 1 = lastN c l from by omega] at this
  exact this
theorem mid_head' {c : UInt8 → Bool} {l : List UInt8} (h : l.any c = true) : ∃ m M, (l.take (lastN c l)).drop (l.findIdx c) = m :: M ∧ c m = true := by
  have h1 := first_last h
  have h2 := lastN_le c l
  have hl : l.findIdx c < (l.take (lastN c l)).length := by rw [List.length_take]; omega
  refine ⟨_, _, List.drop_eq_getElem_cons hl, ?_⟩
  rw [List.getElem_take]
  exact List.findIdx_getElem (w := by omega)
theorem ok_tail {z : UInt8} {C : List UInt8} (h : Ok (z :: C)) (hz : z.toNat < 128) : Ok C := by
  cases h with
  | one _ h => exact h
  | two hx _ => have := (f2 hx).1; omega
  | three hx _ => have := (f3 hx).1; omega
  | four hx _ => have := (f4 hx).1; omega
theorem dress_ok {h : Bool} {l : List UInt8} (ho : Ok l) : Ok (dressL h l) := by
  unfold dressL
  by_cases ha : l.any (specB h) = true
  · rw [if_pos ha]
    obtain ⟨X, z, hX, hz⟩ := last_byte ha
    have hl : l = X ++ z :: l.drop (lastN (specB h) l) := by
      have := List.take_append_drop (lastN (specB h) l) l
      rw [hX, List.append_assoc] at this
      exact this.symm
    obtain ⟨oX, ozC⟩ := split_ok ho X z _ hl (spec_small hz)
    have oC : Ok (l.drop (lastN (specB h) l)) := ok_tail ozC (spec_small hz)
    have oT : Ok (l.take (lastN (specB h) l)) := by rw [hX]; exact app_ok oX (.one (spec_small hz) .nil)
    obtain ⟨m, M, hM, hm⟩ := mid_head' ha
    have h1 := first_last ha
    have hs : l.take (lastN (specB h) l) = l.take (l.findIdx (specB h)) ++ m :: M := by
      rw [← hM]
      have := List.take_append_drop (l.findIdx (specB h)) (l.take (lastN (specB h) l))
      rw [List.take_take, Nat.min_eq_left (by omega)] at this
      exact this.symm
    obtain ⟨oA, oM⟩ := split_ok oT _ m M hs (spec_small hm)
    rw [hM]
    exact app_ok (app_ok (app_ok (app_ok (dbl_ok oA) (.one (by decide) .nil)) (dbl_ok oM)) (.one (by decide) .nil)) (dbl_ok oC)
  · rw [if_neg ha]
    exact dbl_ok ho
/-- A right text stays right in its quotes. -/
theorem brk_dress (h : Bool) (S T : ByteArray) (hT : T.data.toList = dressL h S.data.toList) (hb : brk S < 0) : brk T = -1 := by
  have := ok_of S S.size 0 (by omega) (Nat.zero_le _) hb
  rw [List.drop_zero] at this
  exact ok_brk (dress_ok this) T 0 (by rw [List.drop_zero, hT])
end Go.Proofs.YtjldgcpmdcoejaaGreatDoor
