/- A text in its quotes, read as a message: that text alone. Plain Lean, no walk. A text that is right stays so in its quotes. Plain Lean, no walk. Plain: a text in its quotes, read in the midst of a message. No walk. Plain: names, numbers, styles, keys and arguments in their one form, read. No walk. Plain: keys and offsets in their one form, read. No walk. Plain: offsets, cases and arguments in their one form, read. No walk. Plain: a message in its one form is read as that message. No walk. Plain: parts in their one form are read as those parts: print, then parse. No walk. Plain: the one form of right parts is right UTF-8. No walk. Plain: what the reader's small steps give: names, signs, numbers, styles, keys. No walk. Plain: what the reader's styles and keys give. No walk. Plain: what the reader's offsets, cases and arguments give. No walk. Plain: what is read is right: parts that were read may be, and their one form is at most four times the bytes that were read. No walk. -/
import Derived.Test.YtjldgcpmdcoejaaGreatDoorDT
import Derived.Test.YtjldgcpmdcoejaaGreatDoorQI
import Derived.Test.YtjldgcpmdcoejaaGreatDoorML
namespace Go.Proofs.YtjldgcpmdcoejaaGreatDoor
open Go.RowKit

theorem drop_cons {T : ByteArray} {p : Nat} {b : UInt8} {r : List UInt8} (h : T.data.toList.drop p = b :: r) :
    p < T.size ∧ byt T p = b.toNat ∧ T.data.toList.drop (p + 1) = r ∧ (T.extract p (p + 1)).data.toList = [b] := by
  have hl : p < T.data.toList.length := by
    rcases Nat.lt_or_ge p T.data.toList.length with h1 | h1
    · exact h1
    · rw [List.drop_of_length_le h1] at h; cases h
  have hp : p < T.size := by rw [size_len] at hl; exact hl
  rw [List.drop_eq_getElem_cons hl] at h
  injection h with h1 h2
  have hb : T[p] = b := h1
  refine ⟨hp, by rw [byt_in hp, hb], h2, ?_⟩
  rw [ByteArray.data_extract, Array.toList_extract, List.extract_eq_drop_take', List.drop_take, show p + 1 - p = 1 from by omega, List.drop_eq_getElem_cons hl, ← h1]
  rfl
theorem drop_nil {T : ByteArray} {p : Nat} (h : T.data.toList.drop p = []) : T.size ≤ p ∧ byt T p = -1 := by
  have hp : T.size ≤ p := by
    have := congrArg List.length h
    rw [List.length_drop, size_len, List.length_nil] at this
    omega
  exact ⟨hp, byt_out hp⟩
def stL (a : List UInt8) : List PT := if a = [] then [] else [textP ⟨a.toArray⟩]
def cntL (a : List UInt8) : Nat := if a = [] then 0 else 1
theorem any_first (c : UInt8 → Bool) : ∀ l : List UInt8, (l.take (l.findIdx c)).any c = false
  | [] => rfl
  | x :: l => by
    rw [List.findIdx_cons]
    cases hx : c x
    · simp [hx, any_first c l]
    · simp
theorem any_last (c : UInt8 → Bool) (l : List UInt8) : (l.drop (lastN c l)).any c = false := by
  rw [← List.any_reverse, lastN, ← List.take_reverse]
  exact any_first c l.reverse
theorem mid_head {c : UInt8 → Bool} {l : List UInt8} (h : l.any c = true) : ∃ m M, (l.take (lastN c l)).drop (l.findIdx c) = m :: M ∧ c m = true := by
  have h1 := first_last h
  have h2 := lastN_le c l
  have hl : l.findIdx c < (l.take (lastN c l)).length := by rw [List.length_take]; omega
  refine ⟨_, _, List.drop_eq_getElem_cons hl, ?_⟩
  rw [List.getElem_take]
  exact List.findIdx_getElem (w := by omega)
theorem dress_split {l : List UInt8} {c : UInt8 → Bool} (h : l.any c = true) : l.take (l.findIdx c) ++ ((l.take (lastN c l)).drop (l.findIdx c) ++ l.drop (lastN c l)) = l := by
  have h1 := first_last h
  have e : l.take (l.findIdx c) = (l.take (lastN c l)).take (l.findIdx c) := by rw [List.take_take, Nat.min_eq_left (by omega)]
  rw [e, ← List.append_assoc, List.take_append_drop, List.take_append_drop]
end Go.Proofs.YtjldgcpmdcoejaaGreatDoor

namespace Go.Proofs.YtjldgcpmdcoejaaGreatDoor
open Go.RowKit

inductive Ok : List UInt8 → Prop
  | nil : Ok []
  | one {a : UInt8} {l : List UInt8} : a.toNat < 128 → Ok l → Ok (a :: l)
  | two {a b : UInt8} {l : List UInt8} : (formN 2 a.toNat b.toNat 0 0).2 = 2 → Ok l → Ok (a :: b :: l)
  | three {a b c : UInt8} {l : List UInt8} : (formN 3 a.toNat b.toNat c.toNat 0).2 = 3 → Ok l → Ok (a :: b :: c :: l)
  | four {a b c d : UInt8} {l : List UInt8} : (formN 4 a.toNat b.toNat c.toNat d.toNat).2 = 4 → Ok l → Ok (a :: b :: c :: d :: l)
theorem f2 {a b : Nat} (h : (formN 2 a b 0 0).2 = 2) : 128 ≤ a ∧ 128 ≤ b ∧ ∀ n c d, 2 ≤ n → ¬ (formN n a b c d).1 < 0 ∧ (formN n a b c d).2 = 2 := by
  unfold formN at h
  have h1 : 194 ≤ a ∧ a ≤ 223 ∧ b / 64 = 2 := by
    repeat' split at h
    all_goals first | (exfalso; revert h; decide) | omega | (exfalso; simp at h; done)
  refine ⟨by omega, by omega, fun n c d hn => ?_⟩
  unfold formN
  rw [if_neg (by omega), if_neg (by omega), if_pos (by omega), if_neg (by omega), if_neg (by omega)]
  exact ⟨by simp only; omega, rfl⟩
theorem f3 {a b c : Nat} (h : (formN 3 a b c 0).2 = 3) : 128 ≤ a ∧ 128 ≤ b ∧ 128 ≤ c ∧ ∀ n d, 3 ≤ n → ¬ (formN n a b c d).1 < 0 ∧ (formN n a b c d).2 = 3 := by
  unfold formN at h
  have h1 : 224 ≤ a ∧ a ≤ 239 ∧ b / 64 = 2 ∧ c / 64 = 2 ∧ ¬ (a % 16 * 4096 + b % 64 * 64 + c % 64 < 2048 ∨ (55296 ≤ a % 16 * 4096 + b % 64 * 64 + c % 64 ∧ a % 16 * 4096 + b % 64 * 64 + c % 64 ≤ 57343)) := by
    repeat' split at h
    all_goals first | (exfalso; revert h; decide) | omega | (exfalso; simp at h; done)
  refine ⟨by omega, by omega, by omega, fun n d hn => ?_⟩
  unfold formN
  rw [if_neg (by omega), if_neg (by omega), if_neg (by omega), if_pos (by omega), if_neg (by omega), if_neg (by omega), if_neg (by omega), if_neg h1.2.2.2.2]
  exact ⟨by simp only; omega, rfl⟩
theorem f4 {a b c d : Nat} (h : (formN 4 a b c d).2 = 4) : 128 ≤ a ∧ 128 ≤ b ∧ 128 ≤ c ∧ 128 ≤ d ∧ ∀ n, 4 ≤ n → ¬ (formN n a b c d).1 < 0 ∧ (formN n a b c d).2 = 4 := by
  unfold formN at h
  have h1 : 240 ≤ a ∧ a ≤ 244 ∧ b / 64 = 2 ∧ c / 64 = 2 ∧ d / 64 = 2 ∧ ¬ (a % 8 * 262144 + b % 64 * 4096 + c % 64 * 64 + d % 64 < 65536 ∨ 1114111 < a % 8 * 262144 + b % 64 * 4096 + c % 64 * 64 + d % 64) := by
    repeat' split at h
    all_goals first | (exfalso; revert h; decide) | omega | (exfalso; simp at h; done)
  refine ⟨by omega, by omega, by omega, by omega, fun n hn => ?_⟩
  unfold formN
  rw [if_neg (by omega), if_neg (by omega), if_neg (by omega), if_neg (by omega), if_pos (by omega), if_neg (by omega), if_neg (by omega), if_neg (by omega), if_neg (by omega), if_neg h1.2.2.2.2.2]
  exact ⟨by simp only; omega, rfl⟩
theorem at_drop {s : ByteArray} {i : Nat} {a : UInt8} {l : List UInt8} (h : s.data.toList.drop i = a :: l) : i < s.size ∧ s.get! i = a ∧ s.data.toList.drop (i + 1) = l ∧ s.size - i = l.length + 1 := by
  have hl : i < s.data.toList.length := by
    rcases Nat.lt_or_ge i s.data.toList.length with h1 | h1
    · exact h1
    · rw [List.drop_of_length_le h1] at h; cases h
  have hp : i < s.size := by rw [size_len] at hl; exact hl
  have hlen := congrArg List.length h
  rw [List.length_drop, size_len, List.length_cons] at hlen
  rw [List.drop_eq_getElem_cons hl] at h
  injection h with h1 h2
  exact ⟨hp, by rw [get!_eq s i hp]; exact h1, h2, by omega⟩
theorem ok_brk {l : List UInt8} (h : Ok l) : ∀ (s : ByteArray) (i : Nat), s.data.toList.drop i = l → brkAt s i = -1 := by
  induction h with
  | nil =>
    intro s i hd
    refine brkAt_end s i ?_
    have := congrArg List.length hd
    rw [List.length_drop, size_len, List.length_nil] at this
    omega
  | @one a l ha _ ih =>
    intro s i hd
    obtain ⟨h1, h2, h3, h4⟩ := at_drop hd
    have hf : formD s i = ((a.toNat : Int), 1) := by rw [formD_one (by rw [h2]; exact ha), h2]
    rw [brkAt_next s i h1 (by rw [hf]; simp only; omega), hf]
    exact ih s (i + 1) h3
  | @two a b l hx _ ih =>
    intro s i hd
    obtain ⟨h1, h2, h3, h4⟩ := at_drop hd
    obtain ⟨g1, g2, g3, g4⟩ := at_drop h3
    obtain ⟨_, _, hf⟩ := f2 hx
    have hf := hf (s.size - i) (s.get! (i + 2)).toNat (s.get! (i + 3)).toNat (by omega)
    have e : formD s i = formN (s.size - i) a.toNat b.toNat (s.get! (i + 2)).toNat (s.get! (i + 3)).toNat := by rw [formD_N, h2, g2]
    rw [← e] at hf
    rw [brkAt_next s i h1 hf.1, hf.2]
    exact ih s (i + 2) g3
  | @three a b c l hx _ ih =>
    intro s i hd
    obtain ⟨h1, h2, h3, h4⟩ := at_drop hd
    obtain ⟨g1, g2, g3, g4⟩ := at_drop h3
    obtain ⟨k1, k2, k3, k4⟩ := at_drop g3
    obtain ⟨_, _, _, hf⟩ := f3 hx
    have hf := hf (s.size - i) (s.get! (i + 3)).toNat (by omega)
    have e : formD s i = formN (s.size - i) a.toNat b.toNat c.toNat (s.get! (i + 3)).toNat := by rw [formD_N, h2, g2, k2]
    rw [← e] at hf
    rw [brkAt_next s i h1 hf.1, hf.2]
    exact ih s (i + 3) k3
  | @four a b c d l hx _ ih =>
    intro s i hd
    obtain ⟨h1, h2, h3, h4⟩ := at_drop hd
    obtain ⟨g1, g2, g3, g4⟩ := at_drop h3
    obtain ⟨k1, k2, k3, k4⟩ := at_drop g3
    obtain ⟨m1, m2, m3, m4⟩ := at_drop k3
    obtain ⟨_, _, _, _, hf⟩ := f4 hx
    have hf := hf (s.size - i) (by omega)
    have e : formD s i = formN (s.size - i) a.toNat b.toNat c.toNat d.toNat := by rw [formD_N, h2, g2, k2, m2]
    rw [← e] at hf
    rw [brkAt_next s i h1 hf.1, hf.2]
    exact ih s (i + 4) m3
theorem app_ok {A B : List UInt8} (hA : Ok A) (hB : Ok B) : Ok (A ++ B) := by
  induction hA with
  | nil => exact hB
  | one h _ ih => exact .one h ih
  | two h _ ih => exact .two h ih
  | three h _ ih => exact .three h ih
  | four h _ ih => exact .four h ih
theorem big39 {a : UInt8} (h : 128 ≤ a.toNat) : a ≠ 39 := fun e => by rw [e] at h; revert h; decide
theorem dbl_ok {l : List UInt8} (h : Ok l) : Ok (dbl l) := by
  induction h with
  | nil => exact .nil
  | @one a l h _ ih =>
    rw [dbl_cons]
    split
    · exact .one (by decide) (.one (by decide) ih)
    · exact .one h ih
  | two h _ ih =>
    obtain ⟨h1, h2, _⟩ := f2 h
    rw [dbl_cons, dbl_cons, if_neg (big39 h1), if_neg (big39 h2)]
    exact .two h ih
  | three h _ ih =>
    obtain ⟨h1, h2, h3, _⟩ := f3 h
    rw [dbl_cons, dbl_cons, dbl_cons, if_neg (big39 h1), if_neg (big39 h2), if_neg (big39 h3)]
    exact .three h ih
  | four h _ ih =>
    obtain ⟨h1, h2, h3, h4, _⟩ := f4 h
    rw [dbl_cons, dbl_cons, dbl_cons, dbl_cons, if_neg (big39 h1), if_neg (big39 h2), if_neg (big39 h3), if_neg (big39 h4)]
    exact .four h ih
theorem split_ok {l : List UInt8} (h : Ok l) : ∀ (A : List UInt8) (m : UInt8) (R : List UInt8), l = A ++ m :: R → m.toNat < 128 → Ok A ∧ Ok (m :: R) := by
  induction h with
  | nil => intro A m R h; simp at h
  | @one a l ha hl ih =>
    intro A m R h hm
    match A, h with
    | [], h => exact ⟨.nil, by rw [show m :: R = a :: l from h.symm]; exact .one ha hl⟩
    | x :: A, h =>
      injection h with e1 e2
      subst e1
      obtain ⟨h1, h2⟩ := ih A m R e2 hm
      exact ⟨.one ha h1, h2⟩
  | @two a b l hx hl ih =>
    intro A m R h hm
    obtain ⟨g1, g2, _⟩ := f2 hx
    match A, h with
    | [], h => injection h with e1 e2; subst e1; omega
    | [x], h => injection h with e1 e2; injection e2 with e2 e3; subst e2; omega
    | x :: y :: A, h =>
      injection h with e1 e2
      injection e2 with e2 e3
      subst e1; subst e2
      obtain ⟨h1, h2⟩ := ih A m R e3 hm
      exact ⟨.two hx h1, h2⟩
  | @three a b c l hx hl ih =>
    intro A m R h hm
    obtain ⟨g1, g2, g3, _⟩ := f3 hx
    match A, h with
    | [], h => injection h with e1 e2; subst e1; omega
    | [x], h => injection h with e1 e2; injection e2 with e2 e3; subst e2; omega
    | [x, y], h => injection h with e1 e2; injection e2 with e2 e3; injection e3 with e3 e4; subst e3; omega
    | x :: y :: z :: A, h =>
      injection h with e1 e2
      injection e2 with e2 e3
      injection e3 with e3 e4
      subst e1; subst e2; subst e3
      obtain ⟨h1, h2⟩ := ih A m R e4 hm
      exact ⟨.three hx h1, h2⟩
  | @four a b c d l hx hl ih =>
    intro A m R h hm
    obtain ⟨g1, g2, g3, g4, _⟩ := f4 hx
    match A, h with
    | [], h => injection h with e1 e2; subst e1; omega
    | [x], h => injection h with e1 e2; injection e2 with e2 e3; subst e2; omega
    | [x, y], h => injection h with e1 e2; injection e2 with e2 e3; injection e3 with e3 e4; subst e3; omega
    | [x, y, z], h => injection h with e1 e2; injection e2 with e2 e3; injection e3 with e3 e4; injection e4 with e4 e5; subst e4; omega
    | x :: y :: z :: t :: A, h =>
      injection h with e1 e2
      injection e2 with e2 e3
      injection e3 with e3 e4
      injection e4 with e4 e5
      subst e1; subst e2; subst e3; subst e4
      obtain ⟨h1, h2⟩ := ih A m R e5 hm
      exact ⟨.four hx h1, h2⟩
theorem form_ways (n a b c d : Nat) (h : ¬ (formN n a b c d).1 < 0) :
    (a < 128 ∧ (formN n a b c d).2 = 1) ∨ (2 ≤ n ∧ (formN 2 a b 0 0).2 = 2 ∧ (formN n a b c d).2 = 2) ∨ (3 ≤ n ∧ (formN 3 a b c 0).2 = 3 ∧ (formN n a b c d).2 = 3) ∨ (4 ≤ n ∧ (formN 4 a b c d).2 = 4 ∧ (formN n a b c d).2 = 4) := by
  unfold formN at h ⊢
  by_cases a0 : a < 128
  · left; rw [if_pos a0]; exact ⟨a0, rfl⟩
  by_cases a1 : a < 194
  · rw [if_neg a0, if_pos a1] at h; exact absurd (by decide) h
  by_cases a2 : a ≤ 223
  · rw [if_neg a0, if_neg a1, if_pos a2] at h
    by_cases n2 : n < 2
    · rw [if_pos n2] at h; exact absurd (by decide) h
    by_cases b2 : b / 64 ≠ 2
    · rw [if_neg n2, if_pos b2] at h; exact absurd (by decide) h
    right; left
    rw [if_neg a0, if_neg a1, if_pos a2, if_neg (by omega), if_neg b2, if_neg a0, if_neg a1, if_pos a2, if_neg n2]
    exact ⟨by omega, rfl, rfl⟩
  by_cases a3 : a ≤ 239
  · rw [if_neg a0, if_neg a1, if_neg a2, if_pos a3] at h
    by_cases n2 : n < 3
    · rw [if_pos n2] at h; exact absurd (by decide) h
    by_cases b2 : b / 64 ≠ 2
    · rw [if_neg n2, if_pos b2] at h; exact absurd (by decide) h
    by_cases c2 : c / 64 ≠ 2
    · rw [if_neg n2, if_neg b2, if_pos c2] at h; exact absurd (by decide) h
    rw [if_neg n2, if_neg b2, if_neg c2] at h
    split at h
    · exact absurd (by decide) h
    · rename_i hv
      right; right; left
      rw [if_neg a0, if_neg a1, if_neg a2, if_pos a3, if_neg (by omega), if_neg b2, if_neg c2, if_neg hv, if_neg a0, if_neg a1, if_neg a2, if_pos a3, if_neg n2]
      exact ⟨by omega, rfl, rfl⟩
  by_cases a4 : a ≤ 244
  · rw [if_neg a0, if_neg a1, if_neg a2, if_neg a3, if_pos a4] at h
    by_cases n2 : n < 4
    · rw [if_pos n2] at h; exact absurd (by decide) h
    by_cases b2 : b / 64 ≠ 2
    · rw [if_neg n2, if_pos b2] at h; exact absurd (by decide) h
    by_cases c2 : c / 64 ≠ 2
    · rw [if_neg n2, if_neg b2, if_pos c2] at h; exact absurd (by decide) h
    by_cases d2 : d / 64 ≠ 2
    · rw [if_neg n2, if_neg b2, if_neg c2, if_pos d2] at h; exact absurd (by decide) h
    rw [if_neg n2, if_neg b2, if_neg c2, if_neg d2] at h
    split at h
    · exact absurd (by decide) h
    · rename_i hv
      right; right; right
      rw [if_neg a0, if_neg a1, if_neg a2, if_neg a3, if_pos a4, if_neg (by omega), if_neg b2, if_neg c2, if_neg d2, if_neg hv, if_neg a0, if_neg a1, if_neg a2, if_neg a3, if_pos a4, if_neg n2]
      exact ⟨by omega, rfl, rfl⟩
  · rw [if_neg a0, if_neg a1, if_neg a2, if_neg a3, if_neg a4] at h; exact absurd (by decide) h
theorem drop_get (s : ByteArray) (i : Nat) (h : i < s.size) : s.data.toList.drop i = s.get! i :: s.data.toList.drop (i + 1) := by
  have hl : i < s.data.toList.length := by rw [size_len]; exact h
  rw [List.drop_eq_getElem_cons hl, get!_eq s i h]
  rfl
theorem ok_of (s : ByteArray) : ∀ (f i : Nat), s.size ≤ i + f → i ≤ s.size → brkAt s i < 0 → Ok (s.data.toList.drop i)
  | 0, i, h1, h2, _ => by
    rw [List.drop_of_length_le (by rw [size_len]; omega)]
    exact .nil
  | f + 1, i, h1, h2, hb => by
    by_cases hi : i < s.size
    · have hn : ¬ (formD s i).1 < 0 := fun h => by rw [brkAt_bad s i hi h] at hb; omega
      rw [brkAt_next s i hi hn] at hb
      have hw := formD_wide s i hi
      rw [formD_N] at hn hb hw
      rcases form_ways _ _ _ _ _ hn with ⟨h3, h4⟩ | ⟨h3, h4, h5⟩ | ⟨h3, h4, h5⟩ | ⟨h3, h4, h5⟩
      · rw [h4] at hb
        rw [drop_get s i hi]
        exact .one h3 (ok_of s f (i + 1) (by omega) (by omega) hb)
      · rw [h5] at hb
        rw [drop_get s i hi, drop_get s (i + 1) (by omega)]
        exact .two h4 (ok_of s f (i + 2) (by omega) (by omega) hb)
      · rw [h5] at hb
        rw [drop_get s i hi, drop_get s (i + 1) (by omega), drop_get s (i + 1 + 1) (by omega)]
        exact .three h4 (ok_of s f (i + 3) (by omega) (by omega) hb)
      · rw [h5] at hb
        rw [drop_get s i hi, drop_get s (i + 1) (by omega), drop_get s (i + 1 + 1) (by omega), drop_get s (i + 1 + 1 + 1) (by omega)]
        exact .four h4 (ok_of s f (i + 4) (by omega) (by omega) hb)
    · rw [List.drop_of_length_le (by rw [size_len]; omega)]
      exact .nil
theorem spec_small {h : Bool} {m : UInt8} (hm : specB h m = true) : m.toNat < 128 := by
  simp only [specB, Bool.or_eq_true, Bool.and_eq_true, beq_iff_eq] at hm
  rcases hm with (rfl | rfl) | ⟨rfl, _⟩ <;> decide
theorem last_byte {c : UInt8 → Bool} {l : List UInt8} (h : l.any c = true) : ∃ X z, l.take (lastN c l) = X ++ [z] ∧ c z = true := by
  have h1 := first_last h
  have h2 := lastN_le c l
  have hr : l.reverse.findIdx c < l.reverse.length := by
    obtain ⟨x, hx, hc⟩ := List.any_eq_true.1 h
    exact List.findIdx_lt_length.2 ⟨x, List.mem_reverse.2 hx, hc⟩
  have hp := List.findIdx_getElem (w := hr)
  rw [List.getElem_reverse] at hp
  rw [List.length_reverse] at hr
  have hk : lastN c l - 1 < l.length := by omega
  have hz : c (l[lastN c l - 1]'hk) = true := by
    have e : lastN c l - 1 = l.length - 1 - l.reverse.findIdx c := by unfold lastN; omega
    simpa [e] using hp
  refine ⟨l.take (lastN c l - 1), l[lastN c l - 1]'hk, ?_, hz⟩
  have := List.take_succ_eq_append_getElem hk
  rw [show lastN c l - 1 + 1 = lastN c l from by omega] at this
  exact this
theorem mid_head' {c : UInt8 → Bool} {l : List UInt8} (h : l.any c = true) : ∃ m M, (l.take (lastN c l)).drop (l.findIdx c) = m :: M ∧ c m = true := by
  have h1 := first_last h
  have h2 := lastN_le c l
  have hl : l.findIdx c < (l.take (lastN c l)).length := by rw [List.length_take]; omega
  refine ⟨_, _, List.drop_eq_getElem_cons hl, ?_⟩
  rw [List.getElem_take]
  exact List.findIdx_getElem (w := by omega)
theorem ok_tail {z : UInt8} {C : List UInt8} (h : Ok (z :: C)) (hz : z.toNat < 128) : Ok C := by
  cases h with
  | one _ h => exact h
  | two hx _ => have := (f2 hx).1; omega
  | three hx _ => have := (f3 hx).1; omega
  | four hx _ => have := (f4 hx).1; omega
theorem dress_ok {h : Bool} {l : List UInt8} (ho : Ok l) : Ok (dressL h l) := by
  unfold dressL
  by_cases ha : l.any (specB h) = true
  · rw [if_pos ha]
    obtain ⟨X, z, hX, hz⟩ := last_byte ha
    have hl : l = X ++ z :: l.drop (lastN (specB h) l) := by
      have := List.take_append_drop (lastN (specB h) l) l
      rw [hX, List.append_assoc] at this
      exact this.symm
    obtain ⟨oX, ozC⟩ := split_ok ho X z _ hl (spec_small hz)
    have oC : Ok (l.drop (lastN (specB h) l)) := ok_tail ozC (spec_small hz)
    have oT : Ok (l.take (lastN (specB h) l)) := by rw [hX]; exact app_ok oX (.one (spec_small hz) .nil)
    obtain ⟨m, M, hM, hm⟩ := mid_head' ha
    have h1 := first_last ha
    have hs : l.take (lastN (specB h) l) = l.take (l.findIdx (specB h)) ++ m :: M := by
      rw [← hM]
      have := List.take_append_drop (l.findIdx (specB h)) (l.take (lastN (specB h) l))
      rw [List.take_take, Nat.min_eq_left (by omega)] at this
      exact this.symm
    obtain ⟨oA, oM⟩ := split_ok oT _ m M hs (spec_small hm)
    rw [hM]
    exact app_ok (app_ok (app_ok (app_ok (dbl_ok oA) (.one (by decide) .nil)) (dbl_ok oM)) (.one (by decide) .nil)) (dbl_ok oC)
  · rw [if_neg ha]
    exact dbl_ok ho
end Go.Proofs.YtjldgcpmdcoejaaGreatDoor

namespace Go.Proofs.YtjldgcpmdcoejaaGreatDoor
open Go.RowKit

/-- The last part is no text. -/
def NoTx (acc : List PT) : Prop := ∀ x, acc.getLast? = some x → x.k ≠ 1
theorem NoTx.nil : NoTx [] := fun x h => by cases h
theorem NoTx.snoc {acc : List PT} {p : PT} (h : p.k ≠ 1) : NoTx (acc ++ [p]) := fun x hx => by
  simp at hx; subst hx; exact h
/-- What may follow a text: nothing, or what ends it. -/
def EndW (h : Bool) (W : List UInt8) : Prop := ∀ b, W.head? = some b → specB h b = true
theorem EndW.ne39 {h : Bool} {W : List UInt8} (hW : EndW h W) : W.head? ≠ some 39 := fun hc => by
  have := hW 39 hc
  simp [specB] at this
section
variable {T : ByteArray} {d : Nat} {h : Bool} {acc : List PT} {n : Nat}
theorem putS_acc (ha : NoTx acc) (a : List UInt8) (t : ByteArray) (ht : t.data.toList ≠ []) (hn : n + 1 ≤ 1024) (p : Nat) : putS (acc ++ stL a) t p (n + cntL a) = .ok (acc ++ stL (a ++ t.data.toList)) p (n + cntL (a ++ t.data.toList)) := by
  have hne : a ++ t.data.toList ≠ [] := fun h => ht (List.append_eq_nil_iff.1 h).2
  have e1 : stL (a ++ t.data.toList) = [textP ⟨(a ++ t.data.toList).toArray⟩] := by unfold stL; rw [if_neg hne]
  have e2 : cntL (a ++ t.data.toList) = 1 := by unfold cntL; rw [if_neg hne]
  rw [e1, e2]
  by_cases ha0 : a = []
  · subst ha0
    have : (⟨([] ++ t.data.toList).toArray⟩ : ByteArray) = t := ByteArray.ext (by simp)
    rw [this]
    have h1 : stL [] = [] := rfl
    have h2 : cntL [] = 0 := rfl
    rw [h1, h2, List.append_nil, Nat.add_zero]
    unfold putS
    cases hl : acc.getLast? with
    | none => simp only; rw [if_neg (by omega)]
    | some x => simp only; rw [if_neg (ha x hl), if_neg (by omega)]
  · have h1 : stL a = [textP ⟨a.toArray⟩] := by unfold stL; rw [if_neg ha0]
    have h2 : cntL a = 1 := by unfold cntL; rw [if_neg ha0]
    have h3 : (⟨a.toArray⟩ : ByteArray) ++ t = ⟨(a ++ t.data.toList).toArray⟩ := ByteArray.ext (Array.toList_inj.1 (by simp))
    rw [h1, h2]
    simp [putS, textP, h3]
theorem read_dblA (ha : NoTx acc) (hn : n + 1 ≤ 1024) : ∀ (X a : List UInt8) (p f : Nat) (R : List UInt8), X.any (specB h) = false → p ≤ T.size → T.data.toList.drop p = dbl X ++ R → (T.data.toList.drop p).length < f →
    ∃ p' f', p' ≤ T.size ∧ T.data.toList.drop p' = R ∧ R.length < f' ∧ msgF T f d h (acc ++ stL a) p (n + cntL a) = msgF T f' d h (acc ++ stL (a ++ X)) p' (n + cntL (a ++ X))
  | [], a, p, f, R, _, hpz, hd, hf => ⟨p, f, hpz, by simpa [dbl] using hd, by simpa [hd, dbl] using hf, by rw [List.append_nil]⟩
  | x :: X, a, p, f, R, hs, _, hd, hf => by
    rw [List.any_cons, Bool.or_eq_false_iff] at hs
    have hsx := hs.1
    simp only [specB, Bool.or_eq_false_iff, beq_eq_false_iff_ne, Bool.and_eq_false_iff] at hsx
    obtain ⟨f, rfl⟩ : ∃ g, f = g + 1 := ⟨f - 1, by omega⟩
    have h123 : (x.toNat : Int) ≠ 123 := fun h => hsx.1.1 (UInt8.toNat_inj.1 (by have : UInt8.toNat 123 = 123 := rfl; omega))
    have h125 : (x.toNat : Int) ≠ 125 := fun h => hsx.1.2 (UInt8.toNat_inj.1 (by have : UInt8.toNat 125 = 125 := rfl; omega))
    have h35 : ¬ ((x.toNat : Int) = 35 ∧ h = true) := fun hc => by
      rcases hsx.2 with h2 | h2
      · exact h2 (UInt8.toNat_inj.1 (by have : UInt8.toNat 35 = 35 := rfl; omega))
      · rw [h2] at hc; exact absurd hc.2 (by decide)
    by_cases hx : x = 39
    · subst hx
      rw [dbl_cons, if_pos rfl] at hd
      obtain ⟨hp, hb, hd1, _⟩ := drop_cons (show T.data.toList.drop p = 39 :: (39 :: (dbl X ++ R)) from hd)
      obtain ⟨hp1, hb1, hd2, _⟩ := drop_cons hd1
      obtain ⟨p', f', e0, e1, e2, e3⟩ := read_dblA ha hn X (a ++ [39]) (p + 2) f R hs.2 hp1 hd2 (by rw [hd] at hf; rw [hd2]; simp at hf ⊢; omega)
      refine ⟨p', f', e0, e1, e2, ?_⟩
      have k1 : byt T p = 39 := hb
      have k2 : byt T (p + 1) = 39 := hb1
      rw [msgF, if_neg (by rw [k1]; omega), if_neg (by rw [k1]; omega), if_neg (by rw [k1]; omega), if_pos ⟨k1, k2⟩, putS_acc ha a ⟨#[39]⟩ (by simp) hn p]
      simp only [RM.then]
      refine e3.trans ?_
      rw [List.append_assoc]
      rfl
    · rw [dbl_cons, if_neg hx] at hd
      obtain ⟨hp, hb, hd1, hg⟩ := drop_cons (show T.data.toList.drop p = x :: (dbl X ++ R) from hd)
      obtain ⟨p', f', e0, e1, e2, e3⟩ := read_dblA ha hn X (a ++ [x]) (p + 1) f R hs.2 hp hd1 (by rw [hd] at hf; rw [hd1]; simp at hf ⊢; omega)
      refine ⟨p', f', e0, e1, e2, ?_⟩
      have k39 : byt T p ≠ 39 := by rw [hb]; intro h; exact hx (UInt8.toNat_inj.1 (by have : (39 : UInt8).toNat = 39 := rfl; omega))
      rw [msgF, if_neg (by rw [hb]; omega), if_neg (by rw [hb]; omega), if_neg (by rw [hb]; exact h35), if_neg (fun h => k39 h.1), if_neg (fun h => k39 h.1), putS_acc ha a (T.extract p (p + 1)) (by rw [hg]; simp) hn p]
      simp only [RM.then]
      rw [hg, e3, List.append_assoc]
      rfl
theorem head_byt {p : Nat} {W : List UInt8} (hd : T.data.toList.drop p = W) (hW : W.head? ≠ some 39) : byt T p ≠ 39 := by
  cases W with
  | nil => rw [(drop_nil hd).2]; omega
  | cons w W =>
    obtain ⟨_, hb, _, _⟩ := drop_cons hd
    rw [hb]
    intro hc
    exact hW (by rw [List.head?_cons, UInt8.toNat_inj.1 (show w.toNat = (39 : UInt8).toNat by have : (39 : UInt8).toNat = 39 := rfl; omega)])
theorem quot_endA (o : Nat) (W : List UInt8) (hW : W.head? ≠ some 39) : ∀ (S : List UInt8) (q f : Nat) (acc : List UInt8), T.data.toList.drop q = 39 :: (dbl S ++ W) → (T.data.toList.drop q).length < f →
    ∃ Z Y q', S = Z ++ Y ∧ quotF T o f q acc = .ok (acc ++ Z) q' ∧ T.data.toList.drop q' = dbl Y ++ W ∧ q' ≤ T.size
  | [], q, f, acc, hd, hf => by
    obtain ⟨f, rfl⟩ : ∃ g, f = g + 1 := ⟨f - 1, by omega⟩
    obtain ⟨hp, hb, hd1, _⟩ := drop_cons hd
    have h1 : byt T (q + 1) ≠ 39 := head_byt hd1 (by simpa [dbl] using hW)
    have k1 : byt T q = 39 := hb
    exact ⟨[], [], q + 1, rfl, by rw [quotF, dif_pos hp, if_pos k1, if_neg h1, List.append_nil], hd1, hp⟩
  | y :: S, q, f, acc, hd, hf => by
    obtain ⟨f, rfl⟩ : ∃ g, f = g + 1 := ⟨f - 1, by omega⟩
    obtain ⟨hp, hb, hd1, _⟩ := drop_cons hd
    have k1 : byt T q = 39 := hb
    by_cases hy : y = 39
    · subst hy
      rw [dbl_cons, if_pos rfl] at hd1
      obtain ⟨hp1, hb1, hd2, _⟩ := drop_cons (show T.data.toList.drop (q + 1) = 39 :: (39 :: (dbl S ++ W)) from hd1)
      have k2 : byt T (q + 1) = 39 := hb1
      obtain ⟨Z, Y, q', e1, e2, e3⟩ := quot_endA o W hW S (q + 2) f (acc ++ [39]) hd2 (by rw [hd, dbl_cons, if_pos rfl] at hf; rw [hd2]; simp at hf ⊢; omega)
      exact ⟨39 :: Z, Y, q', by rw [e1]; rfl, by rw [quotF, dif_pos hp, if_pos k1, if_pos k2, e2, List.append_assoc]; rfl, e3⟩
    · have hd1' := hd1
      rw [dbl_cons, if_neg hy] at hd1'
      obtain ⟨hp1, hb1, _, _⟩ := drop_cons (show T.data.toList.drop (q + 1) = y :: (dbl S ++ W) from hd1')
      have k2 : byt T (q + 1) ≠ 39 := by rw [hb1]; intro h; exact hy (UInt8.toNat_inj.1 (by have : (39 : UInt8).toNat = 39 := rfl; omega))
      exact ⟨[], y :: S, q + 1, rfl, by rw [quotF, dif_pos hp, if_pos k1, if_neg k2, List.append_nil], hd1, hp⟩
theorem quot_readA (o : Nat) (W : List UInt8) (hW : W.head? ≠ some 39) : ∀ (M S : List UInt8) (q f : Nat) (acc : List UInt8), T.data.toList.drop q = dbl M ++ 39 :: (dbl S ++ W) → (T.data.toList.drop q).length < f →
    ∃ Z Y q', S = Z ++ Y ∧ quotF T o f q acc = .ok (acc ++ M ++ Z) q' ∧ T.data.toList.drop q' = dbl Y ++ W ∧ q' ≤ T.size
  | [], S, q, f, acc, hd, hf => by
    obtain ⟨Z, Y, q', e1, e2, e3⟩ := quot_endA o W hW S q f acc hd hf
    exact ⟨Z, Y, q', e1, by rw [e2, List.append_nil], e3⟩
  | x :: M, S, q, f, acc, hd, hf => by
    obtain ⟨f, rfl⟩ : ∃ g, f = g + 1 := ⟨f - 1, by omega⟩
    by_cases hx : x = 39
    · subst hx
      have hd' := hd
      rw [dbl_cons, if_pos rfl] at hd'
      obtain ⟨hp, hb, hd1, _⟩ := drop_cons (show T.data.toList.drop q = 39 :: (39 :: (dbl M ++ 39 :: (dbl S ++ W))) from hd')
      obtain ⟨hp1, hb1, hd2, _⟩ := drop_cons hd1
      have k1 : byt T q = 39 := hb
      have k2 : byt T (q + 1) = 39 := hb1
      obtain ⟨Z, Y, q', e1, e2, e3⟩ := quot_readA o W hW M S (q + 2) f (acc ++ [39]) hd2 (by rw [hd'] at hf; rw [hd2]; simp at hf ⊢; omega)
      exact ⟨Z, Y, q', e1, by rw [quotF, dif_pos hp, if_pos k1, if_pos k2, e2]; simp, e3⟩
    · have hd' := hd
      rw [dbl_cons, if_neg hx] at hd'
      obtain ⟨hp, hb, hd1, _⟩ := drop_cons (show T.data.toList.drop q = x :: (dbl M ++ 39 :: (dbl S ++ W)) from hd')
      have k1 : byt T q ≠ 39 := by rw [hb]; intro h; exact hx (UInt8.toNat_inj.1 (by have : (39 : UInt8).toNat = 39 := rfl; omega))
      have hg : T[q] = x := UInt8.toNat_inj.1 (by rw [byt_in hp] at hb; exact_mod_cast hb)
      obtain ⟨Z, Y, q', e1, e2, e3⟩ := quot_readA o W hW M S (q + 1) f (acc ++ [x]) hd1 (by rw [hd'] at hf; rw [hd1]; simp at hf ⊢; omega)
      exact ⟨Z, Y, q', e1, by rw [quotF, dif_pos hp, if_neg k1, hg, e2]; simp, e3⟩
/-- A text in its quotes, read behind other parts and ahead of others. -/
theorem read_dressA (ha : NoTx acc) (hn : n + 1 ≤ 1024) (S : ByteArray) (hne : S.data.toList ≠ []) (W : List UInt8) (hW : EndW h W) (p f : Nat) (hp0 : p ≤ T.size) (hd0 : T.data.toList.drop p = dressL h S.data.toList ++ W) (hf : (T.data.toList.drop p).length < f) :
    ∃ p' f', p' ≤ T.size ∧ T.data.toList.drop p' = W ∧ W.length < f' ∧ msgF T f d h acc p n = msgF T f' d h (acc ++ [textP S]) p' (n + 1) := by
  have hst : stL S.data.toList = [textP S] := by unfold stL; rw [if_neg hne]
  have hct : cntL S.data.toList = 1 := by unfold cntL; rw [if_neg hne]
  have h0 : msgF T f d h acc p n = msgF T f d h (acc ++ stL []) p (n + cntL []) := by
    have h1 : stL [] = [] := rfl
    have h2 : cntL [] = 0 := rfl
    rw [h1, h2, List.append_nil, Nat.add_zero]
  rw [h0]
  by_cases hany : S.data.toList.any (specB h) = true
  · have hd : T.data.toList.drop p = dbl (S.data.toList.take (S.data.toList.findIdx (specB h))) ++ (39 :: (dbl ((S.data.toList.take (lastN (specB h) S.data.toList)).drop (S.data.toList.findIdx (specB h))) ++ 39 :: (dbl (S.data.toList.drop (lastN (specB h) S.data.toList)) ++ W))) := by
      rw [hd0]; unfold dressL; rw [if_pos hany]; simp
    have hA := any_first (specB h) S.data.toList
    have hC := any_last (specB h) S.data.toList
    have hsp := dress_split hany
    obtain ⟨m, M, hM, hm⟩ := mid_head hany
    rw [hM] at hd hsp
    generalize S.data.toList.take (S.data.toList.findIdx (specB h)) = A at *
    generalize S.data.toList.drop (lastN (specB h) S.data.toList) = C at *
    obtain ⟨p1, f1, i1, i2, i3, i4⟩ := read_dblA (d := d) ha hn A [] p f _ hA hp0 hd hf
    rw [i4]
    obtain ⟨f1, rfl⟩ : ∃ g, f1 = g + 1 := ⟨f1 - 1, by omega⟩
    obtain ⟨hp, hb, hd1, _⟩ := drop_cons i2
    have hm39 : m ≠ 39 := fun hc => by subst hc; simp [specB] at hm
    have hd1' := hd1
    rw [dbl_cons, if_neg hm39] at hd1'
    obtain ⟨hp2, hb2, _, _⟩ := drop_cons (show T.data.toList.drop (p1 + 1) = m :: (dbl M ++ 39 :: (dbl C ++ W)) from hd1')
    have k1 : byt T p1 = 39 := hb
    have k2 : byt T (p1 + 1) ≠ 39 := by rw [hb2]; intro hc; exact hm39 (UInt8.toNat_inj.1 (by have : (39 : UInt8).toNat = 39 := rfl; omega))
    have k3 : quotB T h p1 = true := by
      unfold quotB
      rw [hb2]
      simp only [specB, Bool.or_eq_true, beq_iff_eq, Bool.and_eq_true] at hm
      rcases hm with (rfl | rfl) | ⟨rfl, rfl⟩ <;> rfl
    obtain ⟨Z, Y, q', e1, e2, e3, e4⟩ := quot_readA p1 W hW.ne39 (m :: M) C (p1 + 1) (T.size + 1 - (p1 + 1)) [] hd1 (by rw [List.length_drop, size_len]; omega)
    have hq : quotS T p1 = .ok (m :: M ++ Z) q' := e2
    have hmz : (⟨(m :: M ++ Z).toArray⟩ : ByteArray).data.toList = m :: M ++ Z := by simp
    rw [msgF, if_neg (by rw [k1]; omega), if_neg (by rw [k1]; omega), if_neg (by rw [k1]; omega), if_neg (fun h => k2 h.2), if_pos ⟨k1, k3⟩, hq]
    simp only [RR.thenM]
    rw [putS_acc ha _ _ (by rw [hmz]; simp) hn, hmz]
    simp only [RM.then]
    have hY : Y.any (specB h) = false := by
      rw [e1, List.any_append, Bool.or_eq_false_iff] at hC
      exact hC.2
    obtain ⟨p2, f2, j1, j2, j3, j4⟩ := read_dblA (d := d) ha hn Y ([] ++ A ++ (m :: M ++ Z)) q' f1 W hY e4 e3 (by
      have : (T.data.toList.drop q').length < (39 :: (dbl (m :: M) ++ 39 :: (dbl C ++ W))).length := by
        rw [e3, e1, dbl_append]; simp; omega
      omega)
    have hall : [] ++ A ++ (m :: M ++ Z) ++ Y = S.data.toList := by rw [← hsp, e1]; simp
    rw [hall, hst, hct] at j4
    exact ⟨p2, f2, j1, j2, j3, j4⟩
  · have hb : S.data.toList.any (specB h) = false := by simpa using hany
    have hd : T.data.toList.drop p = dbl S.data.toList ++ W := by
      rw [hd0]; unfold dressL; rw [if_neg hany]
    obtain ⟨p1, f1, i1, i2, i3, i4⟩ := read_dblA (d := d) ha hn S.data.toList [] p f W hb hp0 hd hf
    rw [List.nil_append, hst, hct] at i4
    exact ⟨p1, f1, i1, i2, i3, i4⟩
end
end Go.Proofs.YtjldgcpmdcoejaaGreatDoor

namespace Go.Proofs.YtjldgcpmdcoejaaGreatDoor
open Go.RowKit

/-- At a place this stands, up to the text's end. -/
def AtW (T : ByteArray) (p : Nat) (W : List UInt8) : Prop := p ≤ T.size ∧ T.data.toList.drop p = W
section
variable {T : ByteArray} {p : Nat} {W R X : List UInt8}
theorem AtW.cons {b : UInt8} (h : AtW T p (b :: R)) : p < T.size ∧ byt T p = b.toNat ∧ AtW T (p + 1) R := by
  obtain ⟨h1, h2, h3, _⟩ := drop_cons h.2
  exact ⟨h1, h2, h1, h3⟩
theorem AtW.add (h : AtW T p (X ++ W)) : AtW T (p + X.length) W := by
  obtain ⟨h1, h2⟩ := h
  have hl : T.size - p = X.length + W.length := by
    have := congrArg List.length h2
    rw [List.length_drop, size_len, List.length_append] at this
    exact this
  refine ⟨by omega, ?_⟩
  rw [← List.drop_drop, h2, List.drop_left]
theorem AtW.len (h : AtW T p W) : T.size = p + W.length := by
  have := congrArg List.length h.2
  rw [List.length_drop, size_len] at this
  have := h.1
  omega
theorem AtW.ext (h : AtW T p (X ++ W)) : T.extract p (p + X.length) = ⟨X.toArray⟩ := by
  apply ByteArray.ext
  apply Array.toList_inj.1
  rw [ByteArray.data_extract, Array.toList_extract, List.extract_eq_drop_take', List.drop_take, h.2, show p + X.length - p = X.length by omega, List.take_left]
/-- As far as a kind of bytes goes. -/
theorem span_read (c : Int → Bool) (hW : ∀ b, W.head? = some b → c b.toNat = false) : ∀ (X : List UInt8) (p : Nat), AtW T p (X ++ W) → (∀ x ∈ X, c x.toNat = true) → spanF (fun i => c (byt T i)) (T.size - p) p = p + X.length
  | [], p, h, _ => by
    cases W with
    | nil =>
      have := h.len
      simp only [List.append_nil, List.length_nil] at this
      rw [show T.size - p = 0 by omega]
      rfl
    | cons b R =>
      obtain ⟨h1, h2, _⟩ := AtW.cons h
      obtain ⟨f, hf⟩ : ∃ f, T.size - p = f + 1 := ⟨T.size - p - 1, by omega⟩
      rw [hf, spanF, h2, hW b rfl]
      rfl
  | x :: X, p, h, hx => by
    obtain ⟨h1, h2, h3⟩ := AtW.cons (R := X ++ W) h
    obtain ⟨f, hf⟩ : ∃ f, T.size - p = f + 1 := ⟨T.size - p - 1, by omega⟩
    have ih := span_read c hW X (p + 1) h3 (fun y hy => hx y (List.mem_cons_of_mem _ hy))
    rw [hf, spanF, h2, hx x (List.mem_cons_self ..), if_pos rfl, show f = T.size - (p + 1) by omega, ih]
    simp; omega
theorem skip_none (h : AtW T p W) (hW : ∀ b, W.head? = some b → blI b.toNat = false) : skip T p = p := span_read blI hW [] p h (fun x hx => by cases hx)
theorem skip_one (h : AtW T p (32 :: W)) (hW : ∀ b, W.head? = some b → blI b.toNat = false) : skip T p = p + 1 := span_read blI hW [32] p h (fun x hx => by simp at hx; subst hx; rfl)
theorem signS_at {b : UInt8} (h : AtW T p (b :: R)) (hb : blI b.toNat = false) : signS T b.toNat p = .ok () (p + 1) := by
  have hs : skip T p = p := skip_none h (fun c hc => by simp at hc; subst hc; exact hb)
  unfold signS
  rw [hs, (AtW.cons h).2.1, if_pos rfl]
theorem start_noblank {x : Int} (h : startI x = true) : blI x = false := by
  unfold startI at h
  unfold blI
  simp only [Bool.or_eq_true, decide_eq_true_eq, beq_iff_eq] at h
  simp only [Bool.or_eq_false_iff, beq_eq_false_iff_ne]
  omega
theorem allB_mem {c : Int → Bool} {s : ByteArray} (h : allB c s = true) (y : UInt8) (hy : y ∈ s.data.toList) : c y.toNat = true := by
  unfold allB at h
  obtain ⟨_, h2⟩ := of_decide_eq_true h
  obtain ⟨i, hi⟩ := List.mem_iff_getElem?.1 hy
  have hlt : i < s.size := by have := (List.getElem?_eq_some_iff.1 hi).1; rwa [size_len] at this
  have := h2 i hlt
  rwa [byt_list, hi] at this
theorem name_split {nm : ByteArray} (h : isNameB nm = true) : ∃ x X, nm.data.toList = x :: X ∧ startI x.toNat = true ∧ (∀ y ∈ X, nameI y.toNat = true) ∧ X.length + 1 ≤ 64 := by
  unfold isNameB at h
  simp only [Bool.and_eq_true, decide_eq_true_eq] at h
  obtain ⟨⟨h1, h2⟩, h3⟩ := h
  have hl := size_len nm
  cases hx : nm.data.toList with
  | nil =>
    have : nm.size = 0 := by rw [← hl, hx]; rfl
    rw [byt_out (by omega)] at h2
    exact absurd h2 (by decide)
  | cons x X =>
    refine ⟨x, X, rfl, ?_, fun y hy => ?_, by rw [hx] at hl; simp at hl; omega⟩
    · rw [byt_list, hx] at h2; exact h2
    · exact allB_mem h1 y (by rw [hx]; exact List.mem_cons_of_mem _ hy)
theorem nameS_skip {q : Nat} {nm : ByteArray} (hs : skip T p = q) (h : AtW T q (nm.data.toList ++ W)) (hn : isNameB nm = true) (hW : ∀ b, W.head? = some b → nameI b.toNat = false) : nameS T p = .ok nm (q + nm.size) := by
  obtain ⟨x, X, hx, h1, h2, h3⟩ := name_split hn
  have hsz : nm.size = X.length + 1 := by rw [← size_len, hx]; rfl
  have h' := h
  rw [hx] at h'
  obtain ⟨c1, c2, c3⟩ := AtW.cons (R := X ++ W) h'
  have hE : nameE T (q + 1) = q + 1 + X.length := span_read nameI hW X (q + 1) c3 h2
  unfold nameS
  rw [hs, c2, if_pos h1, hE, if_neg (by omega), show q + 1 + X.length = q + nm.data.toList.length by rw [hx]; simp; omega, h.ext, size_len]
theorem name_head {nm : ByteArray} (hn : isNameB nm = true) (W : List UInt8) : ∀ b, (nm.data.toList ++ W).head? = some b → blI b.toNat = false := fun b hb => by
  obtain ⟨x, X, hx, h1, _, _⟩ := name_split hn
  rw [hx] at hb
  simp at hb
  subst hb
  exact start_noblank h1
theorem nameS_at {nm : ByteArray} (h : AtW T p (nm.data.toList ++ W)) (hn : isNameB nm = true) (hW : ∀ b, W.head? = some b → nameI b.toNat = false) : nameS T p = .ok nm (p + nm.size) :=
  nameS_skip (skip_none h (name_head hn W)) h hn hW
theorem numS_at {t : ByteArray} {v : Int} (h : AtW T p (t.data.toList ++ W)) (hv : numV t = some v) (hd : ∀ x ∈ t.data.toList, digI x.toNat = true) (hW : ∀ b, W.head? = some b → digI b.toNat = false) : numS T p = .ok v (p + t.size) := by
  have hE : digE T p = p + t.data.toList.length := span_read digI hW _ p h hd
  unfold numS
  rw [hE, h.ext, hv, size_len]
theorem drop_head (c : UInt8 → Bool) : ∀ (l : List UInt8) (b : UInt8), (l.dropWhile c).head? = some b → c b = false
  | [], _, h => by cases h
  | x :: l, b, h => by
    rw [List.dropWhile_cons] at h
    split at h
    · exact drop_head c l b h
    · rename_i hx; simp at h; subst h; simpa using hx
theorem style_head {st : ByteArray} (h : trimB st = st) : ∀ b, st.data.toList.head? = some b → blI b.toNat = false := fun b hb => by
  have h1 : trimL (trimR st.data.toList) = st.data.toList := by
    have := congrArg (fun x : ByteArray => x.data.toList) h
    simpa [trimB] using this
  rw [← h1] at hb
  exact drop_head (fun b => blI b.toNat) _ b hb
theorem styleS_at {st : ByteArray} (h : AtW T p (32 :: (st.data.toList ++ 125 :: R))) (hst : isStyleB st = true) : styleS T p = .ok st (p + 1 + st.size) := by
  unfold isStyleB at hst
  simp only [Bool.and_eq_true, Bool.not_eq_true', decide_eq_true_eq] at hst
  obtain ⟨⟨⟨⟨h1, h2⟩, h3⟩, _⟩, h5⟩ := hst
  have hne : st.size ≠ 0 := by unfold noB at h1; simpa using h1
  have hs : skip T p = p + 1 := skip_one h (fun b hb => by
    cases hl : st.data.toList with
    | nil => exact absurd (by rw [← size_len, hl]; rfl) hne
    | cons x X =>
      rw [hl] at hb
      simp at hb
      exact style_head h3 b (by rw [hl, ← hb]; rfl))
  have hA := (AtW.cons h).2.2
  have hE : styE T (p + 1) = p + 1 + st.data.toList.length := span_read styI (fun b hb => by simp at hb; subst hb; rfl) _ (p + 1) hA (fun x hx => by
    have h6 := List.any_eq_false.1 h5 x hx
    simp only [quoB, Bool.or_eq_true, beq_iff_eq, not_or] at h6
    unfold styI
    simp only [Bool.and_eq_true, decide_eq_true_eq, Bool.not_eq_true', beq_eq_false_iff_ne]
    refine ⟨⟨⟨by omega, fun e => h6.1.1 ?_⟩, fun e => h6.1.2 ?_⟩, fun e => h6.2 ?_⟩
    · exact UInt8.toNat_inj.1 (by have : UInt8.toNat 123 = 123 := rfl; omega)
    · exact UInt8.toNat_inj.1 (by have : UInt8.toNat 125 = 125 := rfl; omega)
    · exact UInt8.toNat_inj.1 (by have : UInt8.toNat 39 = 39 := rfl; omega))
  unfold styleS
  rw [hs, hE, hA.ext, show (⟨st.data.toList.toArray⟩ : ByteArray) = st from ByteArray.ext (by simp), h3, if_neg hne, if_neg (by omega), size_len]
end
end Go.Proofs.YtjldgcpmdcoejaaGreatDoor

namespace Go.Proofs.YtjldgcpmdcoejaaGreatDoor
open Go.RowKit

theorem digI_of {b : UInt8} (h : digB b = true) : digI b.toNat = true := by
  have := digB_iff.1 h
  unfold digI
  simp only [Bool.and_eq_true, decide_eq_true_eq]
  omega
theorem numV_facts {t : ByteArray} {v : Int} (h : numV t = some v) : Lib.itoa v = t.data.toList ∧ 0 ≤ v ∧ ∀ x ∈ t.data.toList, digI x.toNat = true := by
  have hg : goodD t.data.toList = true := by rw [← numV_good, h]; rfl
  have hd : t.data.toList.all digB = true := by
    unfold goodD at hg
    simp only [Bool.and_eq_true] at hg
    exact hg.1.2
  unfold numV at h
  split at h
  · rename_i x hx
    split at h
    · rename_i hc
      injection h with h
      subst h
      exact ⟨hc.2.1, hc.2.2, fun y hy => digI_of (List.all_eq_true.1 hd y hy)⟩
    · cases h
  · cases h
theorem dec_val : ∀ (u : Nat), valD 0 (Lib.decDigits u) = u := fun u => by
  induction u using Nat.strongRecOn with
  | _ u ih =>
    by_cases h : u < 10
    · rw [dec_small h, valD_cons, valD_nil, UInt8.toNat_ofNat']; omega
    · rw [dec_great h, valD_snoc, ih (u / 10) (by omega), UInt8.toNat_ofNat']; omega
theorem dec_len : ∀ (k u : Nat), u < 10 ^ (k + 1) → (Lib.decDigits u).length ≤ k + 1
  | 0, u, h => by rw [dec_small (by simpa using h)]; exact Nat.le_refl _
  | k + 1, u, h => by
    by_cases h1 : u < 10
    · rw [dec_small h1]; simp
    · rw [dec_great h1, List.length_append]
      have := dec_len k (u / 10) (by rw [Nat.pow_succ] at h; omega)
      simp; omega
theorem itoa_nat (u : Nat) : Lib.itoa (u : Int) = Lib.decDigits u := by unfold Lib.itoa; rw [if_neg (by omega)]; simp
theorem numV_itoa (v : Int) (h0 : 0 ≤ v) (h9 : v ≤ 999999999) : numV ⟨(Lib.itoa v).toArray⟩ = some v := by
  obtain ⟨u, rfl⟩ : ∃ u : Nat, v = u := ⟨v.toNat, by omega⟩
  have hl : (Lib.decDigits u).length ≤ 9 := dec_len 8 u (by omega)
  have hg : goodD (Lib.decDigits u) = true := by
    unfold goodD
    rw [dec_all]
    by_cases h : u = 0
    · subst h; rw [dec_zero]; rfl
    · obtain ⟨c, r, hc, hn⟩ := dec_head u (by omega)
      rw [hc] at hl ⊢
      have : c ≠ 48 := fun h => hn (by rw [h]; rfl)
      simp at hl
      simp [this]; omega
  have hs : (numV ⟨(Lib.itoa (u : Int)).toArray⟩).isSome = true := by
    rw [numV_good]
    simpa [itoa_nat] using hg
  obtain ⟨x, hx⟩ := Option.isSome_iff_exists.1 hs
  obtain ⟨h1, h2, _⟩ := numV_facts hx
  obtain ⟨y, rfl⟩ : ∃ y : Nat, x = y := ⟨x.toNat, by omega⟩
  rw [itoa_nat, itoa_nat] at h1
  have h3 : Lib.decDigits y = Lib.decDigits u := by simpa using h1
  have := congrArg (valD 0) h3
  rw [dec_val, dec_val] at this
  rw [hx, this]
theorem cats_name {t : ByteArray} (h : memW catsW t = true) : isNameB t = true ∧ byt t 0 ≠ 61 := by
  have hm := (memW_iff catsW t).1 h
  simp only [catsW, List.mem_cons, List.not_mem_nil, or_false] at hm
  rcases hm with rfl | rfl | rfl | rfl | rfl | rfl <;> exact ⟨by decide, by decide⟩
section
variable {T : ByteArray} {p : Nat} {R : List UInt8}
/-- A case's key. -/
theorem keyS_at (k : Int) (key : ByteArray) (h : AtW T p (key.data.toList ++ 123 :: R)) (hk : isKeyB k key = true) : keyS T k p = .ok key (p + key.size) := by
  have hW : ∀ (c : Int → Bool), c 123 = false → ∀ b, (123 :: R : List UInt8).head? = some b → c b.toNat = false := fun c hc b hb => by
    simp at hb; subst hb; exact hc
  unfold isKeyB at hk
  unfold keyS
  by_cases h4 : k = 4
  · rw [if_pos h4] at hk
    rw [if_neg (fun hc => hc.1 h4), nameS_at h hk (hW nameI rfl)]
    simp only [RR.then]
    rw [if_neg (fun hc => hc.1 h4)]
  · rw [if_neg h4] at hk
    split at hk
    · rename_i hp
      obtain ⟨X, hX⟩ : ∃ X, key.data.toList = 61 :: X := by
        unfold Lib.hasPrefix at hp
        rw [List.isPrefixOf_iff_prefix] at hp
        obtain ⟨X, hX⟩ := hp
        exact ⟨X, hX.symm⟩
      have hsz : key.size = X.length + 1 := by rw [← size_len, hX]; rfl
      have hx1 : (key.extract 1 key.size).data.toList = X := by rw [data_from, hX]; rfl
      obtain ⟨v, hv⟩ := Option.isSome_iff_exists.1 hk
      obtain ⟨n1, n2, n3⟩ := numV_facts hv
      rw [hx1] at n1 n3
      have h' := h
      rw [hX] at h'
      obtain ⟨c1, c2, c3⟩ := AtW.cons (R := X ++ 123 :: R) h'
      have hN : numS T (p + 1) = .ok v (p + 1 + (key.extract 1 key.size).size) := numS_at (t := key.extract 1 key.size) (by rw [hx1]; exact c3) hv (by rw [hx1]; exact n3) (hW digI rfl)
      have he : (key.extract 1 key.size).size = X.length := by rw [← size_len, hx1]
      rw [if_pos ⟨h4, c2⟩, hN]
      simp only [RR.then]
      have hk2 : eqKey v = key := by
        unfold eqKey
        rw [n1, ← hX]
      rw [hk2, he, hsz, show p + 1 + X.length = p + (X.length + 1) by omega]
    · obtain ⟨g1, g2⟩ := cats_name hk
      have hb : byt T p ≠ 61 := by
        obtain ⟨x, X, hx, _, _, _⟩ := name_split g1
        have h' := h
        rw [hx] at h'
        rw [(AtW.cons (R := X ++ 123 :: R) h').2.1]
        rw [byt_list, hx] at g2
        exact g2
      rw [if_neg (fun hc => hb hc.2), nameS_at h g1 (hW nameI rfl)]
      simp only [RR.then]
      rw [if_neg (fun hc => by rw [hk] at hc; exact absurd hc.2 (by decide))]
/-- The first byte of a key: a sign of a number or a letter. -/
theorem key_head (k : Int) (key : ByteArray) (hk : isKeyB k key = true) (W : List UInt8) : ∀ b, (key.data.toList ++ W).head? = some b → blI b.toNat = false ∧ b ≠ 125 := fun b hb => by
  have nm : isNameB key = true → blI b.toNat = false ∧ b ≠ 125 := fun hn => by
    refine ⟨name_head hn W b hb, fun hc => ?_⟩
    obtain ⟨x, X, hx, h1, _, _⟩ := name_split hn
    rw [hx] at hb
    simp at hb
    subst hb; subst hc
    exact absurd h1 (by decide)
  unfold isKeyB at hk
  split at hk
  · exact nm hk
  · split at hk
    · rename_i hp
      unfold Lib.hasPrefix at hp
      rw [List.isPrefixOf_iff_prefix] at hp
      obtain ⟨X, hX⟩ := hp
      rw [← hX] at hb
      simp at hb
      subst hb
      exact ⟨by decide, by decide⟩
    · exact nm (cats_name hk).1
end
end Go.Proofs.YtjldgcpmdcoejaaGreatDoor

namespace Go.Proofs.YtjldgcpmdcoejaaGreatDoor
open Go.RowKit

theorem emp_of {t : ByteArray} (h : noB t = true) : t = ⟨#[]⟩ := by
  unfold noB at h
  have h1 : t.data.toList = [] := List.eq_nil_of_length_eq_zero (by rw [size_len]; simpa using h)
  exact ByteArray.ext (Array.toList_inj.1 (by simpa using h1))
theorem types_name {t : ByteArray} (h : memW typesW t = true) : isNameB t = true ∧ wordK t = 3 := by
  have hm := (memW_iff typesW t).1 h
  simp only [typesW, List.mem_cons, List.not_mem_nil, or_false] at hm
  rcases hm with rfl | rfl | rfl | rfl | rfl | rfl | rfl <;> exact ⟨by decide, by decide⟩
theorem word_name {k : Int} (h : k = 4 ∨ k = 5 ∨ k = 6) : isNameB (wordB k) = true ∧ wordK (wordB k) = k := by
  rcases h with rfl | rfl | rfl <;> exact ⟨by decide, by decide⟩
/-- What stands ahead of the cases. -/
def offL (off : Int) : List UInt8 := if off = 0 then [] else offW ++ Lib.itoa off ++ [32]
section
variable {T : ByteArray} {p : Nat} {R W : List UInt8}
theorem key_nooff (k : Int) (h4 : k ≠ 4) (key : ByteArray) (hk : isKeyB k key = true) (W : List UInt8) : Lib.hasPrefix (key.data.toList ++ W) offW = false := by
  unfold isKeyB at hk
  rw [if_neg h4] at hk
  split at hk
  · rename_i hp
    unfold Lib.hasPrefix at hp
    rw [List.isPrefixOf_iff_prefix] at hp
    obtain ⟨X, hX⟩ := hp
    rw [← hX]
    rfl
  · have hm := (memW_iff catsW key).1 hk
    simp only [catsW, List.mem_cons, List.not_mem_nil, or_false] at hm
    rcases hm with rfl | rfl | rfl | rfl | rfl | rfl <;> rfl
theorem offS_at (k off : Int) (key : ByteArray) (h0 : 0 ≤ off) (h9 : off ≤ 999999999) (ho : k ≠ 4 ∨ off = 0) (hk : isKeyB k key = true) (h : AtW T p (offL off ++ (key.data.toList ++ W))) : offS T k p = .ok off (p + (offL off).length) := by
  unfold offS
  have hx : (T.extract p T.size).data.toList = T.data.toList.drop p := data_from T p
  rw [hx, h.2]
  by_cases hz : off = 0
  · subst hz
    have he : offL 0 = [] := rfl
    rw [he, List.nil_append]
    by_cases h4 : k = 4
    · rw [if_neg (fun hc => hc.1 h4)]; rfl
    · rw [if_neg (fun hc => by rw [key_nooff k h4 key hk W] at hc; exact absurd hc.2 (by decide))]; rfl
  · have h4 : k ≠ 4 := ho.resolve_right hz
    have he : offL off = offW ++ (Lib.itoa off ++ [32]) := by unfold offL; rw [if_neg hz, List.append_assoc]
    rw [he] at h ⊢
    have hp : Lib.hasPrefix (offW ++ (Lib.itoa off ++ [32]) ++ (key.data.toList ++ W)) offW = true := by
      unfold Lib.hasPrefix
      rw [List.isPrefixOf_iff_prefix, List.append_assoc]
      exact List.prefix_append _ _
    rw [if_pos ⟨h4, hp⟩]
    have hv := numV_itoa off h0 h9
    obtain ⟨n1, _, n3⟩ := numV_facts hv
    have hA : AtW T (p + 7) (Lib.itoa off ++ (32 :: (key.data.toList ++ W))) := by
      have h1 : AtW T p (offW ++ (Lib.itoa off ++ (32 :: (key.data.toList ++ W)))) := by simpa using h
      exact h1.add
    have hd : ∀ b, (Lib.itoa off ++ (32 :: (key.data.toList ++ W))).head? = some b → blI b.toNat = false := fun b hb => by
      obtain ⟨u, rfl⟩ : ∃ u : Nat, off = u := ⟨off.toNat, by omega⟩
      have hall := dec_all u
      rw [itoa_nat] at hb
      by_cases hu : u = 0
      · subst hu; exact absurd rfl hz
      · obtain ⟨c, r, hc, _⟩ := dec_head u (by omega)
        rw [hc] at hb hall
        simp at hb
        subst hb
        rw [List.all_cons, Bool.and_eq_true] at hall
        have := digB_iff.1 hall.1
        unfold blI
        simp only [Bool.or_eq_false_iff, beq_eq_false_iff_ne]
        omega
    have hs : skip T (p + 7) = p + 7 := skip_none hA hd
    have hN : numS T (p + 7) = .ok off (p + 7 + (⟨(Lib.itoa off).toArray⟩ : ByteArray).size) := numS_at (t := ⟨(Lib.itoa off).toArray⟩) (by simpa using hA) hv n3 (fun b hb => by simp at hb; subst hb; rfl)
    have hsz : (⟨(Lib.itoa off).toArray⟩ : ByteArray).size = (Lib.itoa off).length := by simp [ByteArray.size]
    rw [hs, hN, hsz]
    simp only [RR.then]
    have hA2 : AtW T (p + 7 + (Lib.itoa off).length) (32 :: (key.data.toList ++ W)) := hA.add
    rw [skip_one hA2 (fun b hb => (key_head k key hk W b hb).1)]
    congr 1
    simp [offW]; omega
/-- The cases of a choice, read. -/
theorem cases_at (M : Nat → Nat → RM (List PT)) (WR : List PT → List UInt8) (SZ : List PT → Nat) (RB : List PT → Bool) (k : Int) : ∀ (cs acc : List CT) (p n f : Nat) (R : List UInt8), cs ≠ [] → AtW T p (caseW WR false cs ++ 125 :: R) → caseR RB k (acc.map Prod.fst) cs = true →
    (∀ c ∈ cs, ∀ (p' n' : Nat) (R' : List UInt8), p < p' → AtW T p' (WR c.2 ++ 125 :: R') → n' + SZ c.2 ≤ 1024 → M p' n' = .ok c.2 (p' + (WR c.2).length) (n' + SZ c.2)) → cs.length ≤ f → n + sumC SZ cs ≤ 1024 →
    caseF T M k f acc p n = .ok (acc ++ cs) (p + (caseW WR false cs).length) (n + sumC SZ cs)
  | [], _, _, _, _, _, h, _, _, _, _, _ => absurd rfl h
  | c :: cs, acc, p, n, f, R, _, hA, hr, hM, hf, hn => by
    obtain ⟨f, rfl⟩ : ∃ g, f = g + 1 := ⟨f - 1, by simp at hf; omega⟩
    simp only [caseR, Bool.and_eq_true, Bool.not_eq_true'] at hr
    obtain ⟨⟨⟨h1, h2⟩, _⟩, h4⟩ := hr
    have hA1 : AtW T p (c.1.data.toList ++ 123 :: (WR c.2 ++ 125 :: (caseW WR true cs ++ 125 :: R))) := by
      have := hA
      simp only [caseW] at this
      simpa using this
    have hk := keyS_at k c.1 hA1 h2
    have hB := hA1.add
    rw [size_len] at hB
    have hs := signS_at (b := 123) hB rfl
    have hC := (AtW.cons hB).2.2
    have hm := hM c (List.mem_cons_self ..) (p + c.1.size + 1) n _ (by omega) hC (by simp only [sumC] at hn; omega)
    have hD := hC.add
    have hlt := (AtW.cons hD).1
    have hE := (AtW.cons hD).2.2
    rw [caseF, hk]
    simp only [RR.thenM]
    rw [if_neg (by rw [h1]; decide), show (123 : Int) = ((123 : UInt8).toNat : Int) from rfl, hs]
    simp only
    rw [hm]
    simp only [RM.then]
    rw [if_neg (by omega)]
    have hlen : (caseW WR false (c :: cs)).length = c.1.size + 1 + (WR c.2).length + 1 + (caseW WR true cs).length := by
      simp only [caseW, List.length_append, List.length_cons, List.length_nil, size_len]
      simp <;> omega
    cases cs with
    | nil =>
      have hE' : AtW T (p + c.1.size + 1 + (WR c.2).length + 1) (125 :: R) := hE
      have hsk := skip_none hE' (fun b hb => by simp at hb; subst hb; rfl)
      rw [hsk, if_pos (show byt T (p + c.1.size + 1 + (WR c.2).length + 1) = 125 from (AtW.cons hE').2.1)]
      have : sumC SZ [c] = SZ c.2 := by simp [sumC]
      rw [this, hlen]
      simp only [caseW, List.length_nil]
      congr 1
      omega
    | cons c2 cs2 =>
      have hT : caseW WR true (c2 :: cs2) = 32 :: caseW WR false (c2 :: cs2) := rfl
      have hE' : AtW T (p + c.1.size + 1 + (WR c.2).length + 1) (32 :: (caseW WR false (c2 :: cs2) ++ 125 :: R)) := hE
      have h4' := h4
      simp only [caseR, Bool.and_eq_true] at h4'
      have hhd : ∀ b, (caseW WR false (c2 :: cs2) ++ 125 :: R).head? = some b → blI b.toNat = false ∧ b ≠ 125 := fun b hb => key_head k c2.1 h4'.1.1.2 (123 :: (WR c2.2 ++ 125 :: (caseW WR true cs2 ++ 125 :: R))) b (by
        simp only [caseW] at hb
        simpa using hb)
      have hsk := skip_one hE' (fun b hb => (hhd b hb).1)
      have hF := (AtW.cons hE').2.2
      have hne : byt T (p + c.1.size + 1 + (WR c.2).length + 1 + 1) ≠ 125 := by
        obtain ⟨b, Y, hY⟩ : ∃ b Y, caseW WR false (c2 :: cs2) ++ 125 :: R = b :: Y := by
          cases hY : caseW WR false (c2 :: cs2) ++ 125 :: R with
          | nil => simp at hY
          | cons b Y => exact ⟨b, Y, rfl⟩
        rw [hY] at hF
        rw [(AtW.cons hF).2.1]
        intro hc
        exact (hhd b (by rw [hY]; rfl)).2 (UInt8.toNat_inj.1 (by have : UInt8.toNat 125 = 125 := rfl; omega))
      rw [hsk, if_neg hne]
      have ih := cases_at M WR SZ RB k (c2 :: cs2) (acc ++ [c]) (p + c.1.size + 1 + (WR c.2).length + 1 + 1) (n + SZ c.2) f R (by simp) hF (by simpa using h4) (fun c' hc' p' n' R' hp' => hM c' (List.mem_cons_of_mem _ hc') p' n' R' (by omega)) (by simp at hf ⊢; omega) (by simp only [sumC] at hn ⊢; omega)
      have hpair : (acc ++ [(c.1, c.2)]) = acc ++ [c] := rfl
      rw [hpair, ih, hlen, hT]
      congr 1
      · simp
      · simp; omega
      · simp only [sumC]; omega
end
end Go.Proofs.YtjldgcpmdcoejaaGreatDoor

namespace Go.Proofs.YtjldgcpmdcoejaaGreatDoor
open Go.RowKit

section
variable {T : ByteArray} {p : Nat} {W : List UInt8}
theorem sign_tail (b : UInt8) (hb : nameI b.toNat = false) (R : List UInt8) : ∀ c, (b :: R : List UInt8).head? = some c → nameI c.toNat = false := fun c hc => by
  simp at hc; subst hc; exact hb
/-- An argument without a choice. -/
theorem arg3_at (M : Bool → Nat → Nat → RM (List PT)) (Wr : List PT → Bool → List UInt8) (f n d : Nat) (q : PT) (h : Bool) (hk : q.k = 3) (hp : plainB q h = true) (hA : AtW T p (partW Wr h q ++ W)) :
    argS T M f p n d = .ok q (p + (partW Wr h q).length) n := by
  have hpw : partW Wr h q = 123 :: (q.nm.data.toList ++ ((if noB q.ty then [] else [44, 32] ++ q.ty.data.toList) ++ ((if noB q.st then [] else [44, 32] ++ q.st.data.toList) ++ [125]))) := by
    unfold partW
    rw [if_neg (by omega), if_neg (by omega), if_pos hk]
    simp
  rw [hpw] at hA ⊢
  unfold plainB at hp
  rw [if_neg (by omega), if_neg (by omega), if_pos hk] at hp
  simp only [Bool.and_eq_true, Bool.or_eq_true, decide_eq_true_eq, Bool.not_eq_true'] at hp
  obtain ⟨⟨⟨⟨⟨h1, h2⟩, h3⟩, h4⟩, h5⟩, h6⟩ := hp
  have hcs : q.cs = [] := List.eq_nil_of_length_eq_zero h4
  have htx := emp_of h5
  obtain ⟨k, tx, nm, ty, st, off, cs⟩ := q
  simp only at hk h1 h2 h3 hcs htx h6 hA ⊢
  subst hk; subst hcs; subst htx; subst h6
  have hB := (AtW.cons (R := nm.data.toList ++ ((if noB ty then [] else [44, 32] ++ ty.data.toList) ++ ((if noB st then [] else [44, 32] ++ st.data.toList) ++ [125])) ++ W) (by simpa using hA)).2.2
  by_cases hty : noB ty = true
  · have hst : noB st = true := by
      rcases h2 with h2 | h2
      · exact h2
      · rw [h2.1] at hty; cases hty
    rw [if_pos hty, if_pos hst] at hB ⊢
    have hB1 : AtW T (p + 1) (nm.data.toList ++ 125 :: W) := by simpa using hB
    have hC := hB1.add
    rw [size_len] at hC
    unfold argS
    rw [nameS_at hB1 h3 (sign_tail 125 rfl W)]
    simp only [RR.thenM]
    have hs : skip T (p + 1 + nm.size) = p + 1 + nm.size := skip_none hC (fun b hb => by simp at hb; subst hb; rfl)
    rw [hs, if_pos (show byt T (p + 1 + nm.size) = 125 from (AtW.cons hC).2.1), emp_of hty, emp_of hst]
    congr 1
    simp; omega
  · have htyf : noB ty = false := by simpa using hty
    rw [if_neg (by rw [htyf]; decide)] at hB ⊢
    have hmt : memW typesW ty = true := by
      rcases h1 with h1 | h1
      · rw [htyf] at h1; cases h1
      · exact h1
    obtain ⟨t1, t2⟩ := types_name hmt
    by_cases hst : noB st = true
    · rw [if_pos hst] at hB ⊢
      have hB1 : AtW T (p + 1) (nm.data.toList ++ 44 :: (32 :: (ty.data.toList ++ 125 :: W))) := by simpa using hB
      have hC := hB1.add
      rw [size_len] at hC
      have hs : skip T (p + 1 + nm.size) = p + 1 + nm.size := skip_none hC (fun b hb => by simp at hb; subst hb; rfl)
      have hsg := signS_at (b := 44) hC rfl
      have hD := (AtW.cons hC).2.2
      have hs2 : skip T (p + 1 + nm.size + 1) = p + 1 + nm.size + 1 + 1 := skip_one hD (name_head t1 _)
      have hE := (AtW.cons hD).2.2
      have hF := hE.add
      rw [size_len] at hF
      have hs3 : skip T (p + 1 + nm.size + 1 + 1 + ty.size) = p + 1 + nm.size + 1 + 1 + ty.size := skip_none hF (fun b hb => by simp at hb; subst hb; rfl)
      have hsg2 := signS_at (b := 125) hF rfl
      unfold argS
      rw [nameS_at hB1 h3 (sign_tail 44 rfl _)]
      simp only [RR.thenM]
      rw [hs, if_neg (by rw [(AtW.cons hC).2.1]; decide), show (44 : Int) = ((44 : UInt8).toNat : Int) from rfl, hsg]
      simp only
      rw [hs2, nameS_at hE t1 (sign_tail 125 rfl W)]
      simp only
      rw [if_neg (by rw [t2]; decide), if_pos t2, hs3, if_neg (by rw [(AtW.cons hF).2.1]; decide), show (125 : Int) = ((125 : UInt8).toNat : Int) from rfl, hsg2]
      simp only
      rw [emp_of hst]
      congr 1
      simp; omega
    · have hstf : noB st = false := by simpa using hst
      rw [if_neg (by rw [hstf]; decide)] at hB ⊢
      have hstb : isStyleB st = true := by
        rcases h2 with h2 | h2
        · rw [hstf] at h2; cases h2
        · exact h2.2
      have hB1 : AtW T (p + 1) (nm.data.toList ++ 44 :: (32 :: (ty.data.toList ++ 44 :: (32 :: (st.data.toList ++ 125 :: W))))) := by simpa using hB
      have hC := hB1.add
      rw [size_len] at hC
      have hs : skip T (p + 1 + nm.size) = p + 1 + nm.size := skip_none hC (fun b hb => by simp at hb; subst hb; rfl)
      have hsg := signS_at (b := 44) hC rfl
      have hD := (AtW.cons hC).2.2
      have hs2 : skip T (p + 1 + nm.size + 1) = p + 1 + nm.size + 1 + 1 := skip_one hD (name_head t1 _)
      have hE := (AtW.cons hD).2.2
      have hF := hE.add
      rw [size_len] at hF
      have hs3 : skip T (p + 1 + nm.size + 1 + 1 + ty.size) = p + 1 + nm.size + 1 + 1 + ty.size := skip_none hF (fun b hb => by simp at hb; subst hb; rfl)
      have hG := (AtW.cons hF).2.2
      have hH := (AtW.cons hG).2.2.add
      rw [size_len] at hH
      have hsg2 := signS_at (b := 125) hH rfl
      unfold argS
      rw [nameS_at hB1 h3 (sign_tail 44 rfl _)]
      simp only [RR.thenM]
      rw [hs, if_neg (by rw [(AtW.cons hC).2.1]; decide), show (44 : Int) = ((44 : UInt8).toNat : Int) from rfl, hsg]
      simp only
      rw [hs2, nameS_at hE t1 (sign_tail 44 rfl _)]
      simp only
      rw [if_neg (by rw [t2]; decide), if_pos t2, hs3, if_pos (show byt T (p + 1 + nm.size + 1 + 1 + ty.size) = ((44 : UInt8).toNat : Int) from (AtW.cons hF).2.1), styleS_at hG hstb]
      simp only
      rw [show (125 : Int) = ((125 : UInt8).toNat : Int) from rfl, hsg2]
      simp only
      congr 1
      simp; omega
/-- A choice. -/
theorem argC_at (M : Bool → Nat → Nat → RM (List PT)) (Wr : List PT → Bool → List UInt8) (SZ : List PT → Nat) (RB : List PT → Bool) (f n d : Nat) (q : PT) (h : Bool) (hk : q.k = 4 ∨ q.k = 5 ∨ q.k = 6) (hp : plainB q h = true) (hcr : caseR RB q.k [] q.cs = true) (ho : otherB q = true)
    (hM : ∀ c ∈ q.cs, ∀ (p' n' : Nat) (R' : List UInt8), p < p' → AtW T p' (Wr c.2 (decide (q.k ≠ 4)) ++ 125 :: R') → n' + SZ c.2 ≤ 1024 → M (decide (q.k ≠ 4)) p' n' = .ok c.2 (p' + (Wr c.2 (decide (q.k ≠ 4))).length) (n' + SZ c.2))
    (hf : q.cs.length ≤ f) (hn : n + sumC SZ q.cs ≤ 1024) (hd : d ≠ 8) (hA : AtW T p (partW Wr h q ++ W)) : argS T M f p n d = .ok q (p + (partW Wr h q).length) (n + sumC SZ q.cs) := by
  have hpw : partW Wr h q = 123 :: (q.nm.data.toList ++ 44 :: 32 :: ((wordB q.k).data.toList ++ 44 :: 32 :: (offL q.off ++ (caseW (fun m => Wr m (decide (q.k ≠ 4))) false q.cs ++ [125])))) := by
    unfold partW offL
    rw [if_neg (by omega), if_neg (by omega), if_neg (by omega), if_pos (by omega)]
    simp
  rw [hpw] at hA ⊢
  unfold plainB at hp
  rw [if_neg (by omega), if_neg (by omega), if_neg (by omega), if_pos (by omega)] at hp
  simp only [Bool.and_eq_true, Bool.or_eq_true, decide_eq_true_eq, Bool.not_eq_true', decide_eq_false_iff_not] at hp
  obtain ⟨⟨⟨⟨⟨⟨⟨h1, h2⟩, h3⟩, h4⟩, h5⟩, h6⟩, h7⟩, h8⟩ := hp
  have hother : memW (q.cs.map Prod.fst) otherW = true := by
    unfold otherB at ho
    rw [decide_eq_false (by omega)] at ho
    exact ho
  obtain ⟨w1, w2⟩ := word_name hk
  obtain ⟨k, tx, nm, ty, st, off, cs⟩ := q
  simp only at hk h1 h2 h3 h4 h5 h6 h7 h8 hother hcr hM hf hn hA w1 w2 ⊢
  have hne : cs ≠ [] := fun hc => h4 (by rw [hc]; rfl)
  obtain ⟨c, cs', hcs⟩ : ∃ c cs', cs = c :: cs' := by
    cases cs with
    | nil => exact absurd rfl hne
    | cons c cs' => exact ⟨c, cs', rfl⟩
  have hkey : isKeyB k c.1 = true := by
    rw [hcs] at hcr
    simp only [caseR, Bool.and_eq_true] at hcr
    exact hcr.1.1.2
  have hB : AtW T (p + 1) (nm.data.toList ++ 44 :: (32 :: ((wordB k).data.toList ++ 44 :: (32 :: (offL off ++ (caseW (fun m => Wr m (decide (k ≠ 4))) false cs ++ 125 :: W)))))) := by
    have := (AtW.cons (R := nm.data.toList ++ 44 :: 32 :: ((wordB k).data.toList ++ 44 :: 32 :: (offL off ++ (caseW (fun m => Wr m (decide (k ≠ 4))) false cs ++ [125]))) ++ W) (by simpa using hA)).2.2
    simpa using this
  have hC := hB.add
  rw [size_len] at hC
  have hs : skip T (p + 1 + nm.size) = p + 1 + nm.size := skip_none hC (fun b hb => by simp at hb; subst hb; rfl)
  have hsg := signS_at (b := 44) hC rfl
  have hD := (AtW.cons hC).2.2
  have hs2 : skip T (p + 1 + nm.size + 1) = p + 1 + nm.size + 1 + 1 := skip_one hD (name_head w1 _)
  have hE := (AtW.cons hD).2.2
  have hF := hE.add
  rw [size_len] at hF
  have hsg2 := signS_at (b := 44) hF rfl
  have hG := (AtW.cons hF).2.2
  have hcw : ∃ Y, caseW (fun m => Wr m (decide (k ≠ 4))) false cs ++ 125 :: W = c.1.data.toList ++ Y := ⟨_, by rw [hcs]; simp only [caseW, Bool.false_eq_true, if_false, List.nil_append, List.append_assoc]; rfl⟩
  obtain ⟨Y, hY⟩ := hcw
  have hhd : ∀ b, (offL off ++ (caseW (fun m => Wr m (decide (k ≠ 4))) false cs ++ 125 :: W)).head? = some b → blI b.toNat = false := fun b hb => by
    rw [hY] at hb
    by_cases hz : off = 0
    · have : offL off = [] := by unfold offL; rw [if_pos hz]
      rw [this] at hb
      exact (key_head k c.1 hkey Y b (by simpa using hb)).1
    · have : offL off = offW ++ Lib.itoa off ++ [32] := by unfold offL; rw [if_neg hz]
      rw [this] at hb
      simp [offW] at hb
      subst hb
      rfl
  have hs3 := skip_one hG hhd
  have hH := (AtW.cons hG).2.2
  have hoff := offS_at (W := Y) k off c.1 h1 h2 h3 hkey (by rw [← hY]; exact hH)
  have hI := hH.add
  have hcas := cases_at (M (decide (k ≠ 4))) (fun m => Wr m (decide (k ≠ 4))) SZ RB k cs [] _ n f W hne hI hcr (fun c' hc' p' n' R' hp' => hM c' hc' p' n' R' (by omega)) hf hn
  have hJ := hI.add
  have hsg3 := signS_at (b := 125) hJ rfl
  unfold argS
  rw [nameS_at hB h5 (sign_tail 44 rfl _)]
  simp only [RR.thenM]
  rw [hs, if_neg (by rw [(AtW.cons hC).2.1]; decide), show (44 : Int) = ((44 : UInt8).toNat : Int) from rfl, hsg]
  simp only
  rw [hs2, nameS_at hE w1 (sign_tail 44 rfl _)]
  simp only
  rw [w2, if_neg (by omega), if_neg (by omega), hsg2]
  simp only
  unfold choiS
  rw [if_neg hd, hs3, hoff]
  simp only [RR.thenM]
  rw [hcas]
  simp only [RM.then, List.nil_append]
  rw [if_pos hother]
  simp only
  rw [show (125 : Int) = ((125 : UInt8).toNat : Int) from rfl, hsg3]
  simp only
  rw [emp_of h6, emp_of h7, emp_of h8]
  congr 1
  simp; omega
end
end Go.Proofs.YtjldgcpmdcoejaaGreatDoor

namespace Go.Proofs.YtjldgcpmdcoejaaGreatDoor
open Go.RowKit

section
variable {D : List PT → Nat}
theorem mostC_ge : ∀ (cs : List CT) (m : Nat), m ≤ mostC D m cs
  | [], _ => Nat.le_refl _
  | c :: cs, m => Nat.le_trans (by omega) (mostC_ge cs (max m (1 + D c.2)))
theorem mostC_mem : ∀ (cs : List CT) (m : Nat) (c : CT), c ∈ cs → 1 + D c.2 ≤ mostC D m cs
  | [], _, _, h => by cases h
  | x :: cs, m, c, h => by
    rcases List.mem_cons.1 h with rfl | h
    · exact Nat.le_trans (by omega) (mostC_ge cs (max m (1 + D c.2)))
    · exact mostC_mem cs _ c h
theorem mostC_mono : ∀ (cs : List CT) (m m' : Nat), m ≤ m' → mostC D m cs ≤ mostC D m' cs
  | [], _, _, h => h
  | c :: cs, m, m', h => mostC_mono cs _ _ (by omega)
theorem mostL_ge : ∀ (l : List PT) (m : Nat), m ≤ mostL D m l
  | [], _ => Nat.le_refl _
  | p :: l, m => Nat.le_trans (mostC_ge (casesP p) m) (mostL_ge l _)
theorem mostL_mono : ∀ (l : List PT) (m m' : Nat), m ≤ m' → mostL D m l ≤ mostL D m' l
  | [], _, _, h => h
  | _ :: l, _, _, h => mostL_mono l _ _ (mostC_mono _ _ _ h)
end
theorem caseR_mem {R : List PT → Bool} {k : Int} : ∀ {cs : List CT} {ks : List ByteArray}, caseR R k ks cs = true → ∀ c ∈ cs, R c.2 = true
  | [], _, _, c, hc => by cases hc
  | x :: cs, ks, h, c, hc => by
    simp only [caseR, Bool.and_eq_true] at h
    rcases List.mem_cons.1 hc with rfl | hc
    · exact h.1.2
    · exact caseR_mem h.2 c hc
theorem caseW_lenP (W : List PT → List UInt8) : ∀ (b : Bool) (cs : List CT), cs.length ≤ (caseW W b cs).length
  | _, [] => Nat.le_refl _
  | b, c :: cs => by
    have := caseW_lenP W true cs
    simp only [caseW, List.length_append, List.length_cons, List.length_nil]
    omega
/-- What may follow a list of parts: nothing, or what closes a case. -/
def TailW (W : List UInt8) : Prop := W = [] ∨ ∃ R, W = 125 :: R
theorem TailW.endW {W : List UInt8} (h : TailW W) (b : Bool) : EndW b W := fun x hx => by
  rcases h with rfl | ⟨R, rfl⟩
  · cases hx
  · simp at hx; subst hx; rfl
theorem plain_kinds {p : PT} {h : Bool} (hp : plainB p h = true) : p.k = 1 ∨ p.k = 2 ∨ p.k = 3 ∨ (p.k = 4 ∨ p.k = 5 ∨ p.k = 6) := by
  unfold plainB at hp
  split at hp
  · omega
  · split at hp
    · omega
    · split at hp
      · omega
      · split at hp
        · omega
        · cases hp
/-- Behind a text stands no text, and what stands there ends it. -/
theorem write_head {R : List PT → Bool → Bool} {Wr : List PT → Bool → List UInt8} {h : Bool} {l : List PT} {W : List UInt8} (hr : rightL R h 1 l = true) (hW : TailW W) : EndW h (writeL Wr h l ++ W) := by
  cases l with
  | nil => exact hW.endW h
  | cons p l =>
    simp only [rightL, Bool.and_eq_true, Bool.not_eq_true'] at hr
    obtain ⟨⟨⟨⟨h1, h2⟩, _⟩, _⟩, _⟩ := hr
    have hk1 : p.k ≠ 1 := fun hc => by rw [hc] at h2; exact absurd h2 (by decide)
    intro b hb
    simp only [writeL] at hb
    unfold partW at hb
    rcases plain_kinds h1 with hk | hk | hk | hk
    · exact absurd hk hk1
    · rw [if_neg hk1, if_pos hk] at hb
      simp at hb
      subst hb
      have hh : h = true := by
        unfold plainB at h1
        rw [if_neg hk1, if_pos hk] at h1
        simp only [Bool.and_eq_true] at h1
        exact h1.1.1.1.1.1.1
      rw [hh]; rfl
    · rw [if_neg hk1, if_neg (by omega), if_pos hk] at hb
      simp at hb
      subst hb
      rfl
    · rw [if_neg hk1, if_neg (by omega), if_neg (by omega), if_pos hk] at hb
      simp at hb
      subst hb
      rfl
/-- Print, then parse, of trees k deep. -/
def MsgAt (T : ByteArray) (k : Nat) : Prop := ∀ (l : List PT) (h : Bool) (d p f n : Nat) (W : List UInt8), rightF k l h = true → AtW T p (writeF k l h ++ W) → TailW W → T.size - p < f → n + sizeF k l ≤ 1024 → d + depthF k l ≤ 8 →
  msgF T f d h [] p n = .ok l (p + (writeF k l h).length) (n + sizeF k l)
theorem parts_at (T : ByteArray) (k : Nat) (ih : MsgAt T k) : ∀ (l acc : List PT) (h : Bool) (q : Int) (d p f n : Nat) (W : List UInt8), rightL (rightF k) h q l = true → (q = 1 ∨ NoTx acc) → AtW T p (writeL (writeF k) h l ++ W) → TailW W → T.size - p < f → n + (l.length + sumL (sizeF k) l) ≤ 1024 → d + mostL (depthF k) 0 l ≤ 8 →
    msgF T f d h acc p n = .ok (acc ++ l) (p + (writeL (writeF k) h l).length) (n + (l.length + sumL (sizeF k) l))
  | [], acc, h, q, d, p, f, n, W, _, _, hA, hW, hf, _, _ => by
    obtain ⟨f, rfl⟩ : ∃ g, f = g + 1 := ⟨f - 1, by omega⟩
    have hA' : AtW T p W := hA
    have : p = T.size ∨ byt T p = 125 := by
      rcases hW with rfl | ⟨R, rfl⟩
      · left
        have := hA'.len
        simpa using this.symm
      · exact .inr (AtW.cons hA').2.1
    rw [msgF_end this]
    simp [writeL, sumL]
  | x :: l, acc, h, q, d, p, f, n, W, hr, hq, hA, hW, hf, hn, hd => by
    obtain ⟨f, rfl⟩ : ∃ g, f = g + 1 := ⟨f - 1, by omega⟩
    have hr0 := hr
    simp only [rightL, Bool.and_eq_true, Bool.not_eq_true'] at hr
    obtain ⟨⟨⟨⟨h1, h2⟩, h3⟩, h4⟩, h5⟩ := hr
    have hA1 : AtW T p (partW (writeF k) h x ++ (writeL (writeF k) h l ++ W)) := by
      have := hA
      simp only [writeL] at this
      simpa using this
    have hB := hA1.add
    simp only [List.length_cons, sumL] at hn
    have hlen : (writeL (writeF k) h (x :: l)).length = (partW (writeF k) h x).length + (writeL (writeF k) h l).length := by simp [writeL]
    have hmost : mostL (depthF k) 0 (x :: l) = mostL (depthF k) (mostC (depthF k) 0 (casesP x)) l := rfl
    have hdl : d + mostL (depthF k) 0 l ≤ 8 := by
      have := mostL_mono (D := depthF k) l 0 (mostC (depthF k) 0 (casesP x)) (Nat.zero_le _)
      omega
    have rest : ∀ f', T.size - (p + (partW (writeF k) h x).length) < f' → msgF T f' d h (acc ++ [x]) (p + (partW (writeF k) h x).length) (n + 1 + sumC (sizeF k) x.cs) = .ok (acc ++ x :: l) (p + (writeL (writeF k) h (x :: l)).length) (n + ((x :: l).length + sumL (sizeF k) (x :: l))) := fun f' hf' => by
      rw [parts_at T k ih l (acc ++ [x]) h x.k d _ f' _ W h5 (by by_cases hk : x.k = 1; exact .inl hk; exact .inr (NoTx.snoc hk)) hB hW hf' (by omega) hdl, hlen]
      congr 1
      · simp
      · omega
      · simp only [List.length_cons, sumL]; omega
    have hp123 : ∀ R, partW (writeF k) h x = 123 :: R → byt T p = 123 := fun R hR => by
      have := hA1
      rw [hR] at this
      exact (AtW.cons (R := R ++ (writeL (writeF k) h l ++ W)) this).2.1
    rcases plain_kinds h1 with hk | hk | hk | hk
    · -- a text
      have hno : NoTx acc := hq.resolve_left fun hc => by rw [hk, hc] at h2; exact absurd h2 (by decide)
      have hpw : partW (writeF k) h x = dressL h x.tx.data.toList := by unfold partW; rw [if_pos hk]
      have hpl := h1
      unfold plainB at hpl
      rw [if_pos hk] at hpl
      simp only [Bool.and_eq_true, Bool.not_eq_true', decide_eq_true_eq] at hpl
      obtain ⟨⟨⟨⟨⟨⟨g1, _⟩, g2⟩, g3⟩, g4⟩, g5⟩, g6⟩ := hpl
      have hcs : x.cs = [] := List.eq_nil_of_length_eq_zero g2
      have hne : x.tx.data.toList ≠ [] := fun hc => by
        have : noB x.tx = true := by unfold noB; rw [← size_len, hc]; rfl
        rw [this] at g1; cases g1
      have hx : textP x.tx = x := by
        obtain ⟨a1, a2, a3, a4, a5, a6, a7⟩ := x
        simp only at hk g3 g4 g5 g6 hcs
        subst hk; subst g6; subst hcs
        rw [emp_of g3, emp_of g4, emp_of g5]
        rfl
      have hr5 : rightL (rightF k) h 1 l = true := by rw [← hk]; exact h5
      rw [hpw] at hA1
      obtain ⟨p', f', i1, i2, i3, i4⟩ := read_dressA (d := d) (acc := acc) (n := n) hno (by omega) x.tx hne (writeL (writeF k) h l ++ W) (write_head hr5 hW) p (f + 1) hA1.1 hA1.2 (by rw [List.length_drop, size_len]; omega)
      have hp' : p' = p + (partW (writeF k) h x).length := by
        have e1 : T.size = p' + (writeL (writeF k) h l ++ W).length := AtW.len ⟨i1, i2⟩
        have e2 := hB.len
        omega
      rw [i4, hx]
      have hlW : (writeL (writeF k) h l ++ W).length = T.size - p' := by
        have e1 : T.size = p' + (writeL (writeF k) h l ++ W).length := AtW.len ⟨i1, i2⟩
        omega
      have := rest f' (by rw [← hp']; omega)
      rw [hcs] at this
      simp only [sumC, Nat.add_zero] at this
      rw [hp']
      exact this
    · -- a sign of a number
      have hpw : partW (writeF k) h x = [35] := by unfold partW; rw [if_neg (by omega), if_pos hk]
      have hpl := h1
      unfold plainB at hpl
      rw [if_neg (by omega), if_pos hk] at hpl
      simp only [Bool.and_eq_true, decide_eq_true_eq] at hpl
      obtain ⟨⟨⟨⟨⟨⟨g0, g2⟩, g1⟩, g3⟩, g4⟩, g5⟩, g6⟩ := hpl
      have hcs : x.cs = [] := List.eq_nil_of_length_eq_zero g2
      have hx : hashP = x := by
        obtain ⟨a1, a2, a3, a4, a5, a6, a7⟩ := x
        simp only at hk g1 g3 g4 g5 g6 hcs
        subst hk; subst g6; subst hcs
        rw [emp_of g1, emp_of g3, emp_of g4, emp_of g5]
        rfl
      rw [hpw] at hA1
      have hb := (AtW.cons hA1).2.1
      rw [msgF_hash hb g0, if_neg (by omega), hx]
      have := rest f (by rw [hpw]; have := (AtW.cons hA1).1; simp; omega)
      rw [hcs, hpw] at this
      simp only [sumC, Nat.add_zero, List.length_singleton] at this
      exact this
    · -- an argument
      have hcs : x.cs = [] := by
        have hpl := h1
        unfold plainB at hpl
        rw [if_neg (by omega), if_neg (by omega), if_pos hk] at hpl
        simp only [Bool.and_eq_true, decide_eq_true_eq] at hpl
        exact List.eq_nil_of_length_eq_zero hpl.1.1.2
      have h123 := hp123 _ (by unfold partW; rw [if_neg (by omega), if_neg (by omega), if_pos hk]; simp only [List.cons_append, List.nil_append]; rfl)
      have hlt := byt_lt (show 0 ≤ byt T p by omega)
      rw [msgF_arg h123, if_neg (by omega), arg3_at _ (writeF k) f (n + 1) d x h hk h1 hA1]
      simp only [RM.then]
      have hl1 : 0 < (partW (writeF k) h x).length := by
        unfold partW; rw [if_neg (by omega), if_neg (by omega), if_pos hk]; simp
      have := rest f (by omega)
      rw [hcs] at this
      simp only [sumC, Nat.add_zero] at this
      exact this
    · -- a choice
      have h123 := hp123 _ (by unfold partW; rw [if_neg (by omega), if_neg (by omega), if_neg (by omega), if_pos hk]; simp only [List.cons_append, List.nil_append]; rfl)
      have hlt := byt_lt (show 0 ≤ byt T p by omega)
      have hcp : casesP x = x.cs := by unfold casesP; rw [if_neg (by omega)]
      have hcl : x.cs.length + 1 ≤ (partW (writeF k) h x).length := by
        have := caseW_lenP (fun m => writeF k m (decide (x.k ≠ 4))) false x.cs
        unfold partW
        rw [if_neg (by omega), if_neg (by omega), if_neg (by omega), if_pos hk]
        simp only [List.length_append, List.length_cons, List.length_nil]
        omega
      have hne : x.cs ≠ [] := fun hc => by
        have hpl := h1
        unfold plainB at hpl
        rw [if_neg (by omega), if_neg (by omega), if_neg (by omega), if_pos hk, hc] at hpl
        simp at hpl
      have hdc : ∀ c ∈ x.cs, d + (1 + depthF k c.2) ≤ 8 := fun c hc => by
        have e1 := mostC_mem (D := depthF k) x.cs 0 c hc
        have e2 := mostL_ge (D := depthF k) l (mostC (depthF k) 0 x.cs)
        rw [hmost, hcp] at hd
        omega
      have hd8 : d ≠ 8 := fun hc => by
        obtain ⟨c, cs', e⟩ : ∃ c cs', x.cs = c :: cs' := by
          cases hx : x.cs with
          | nil => exact absurd hx hne
          | cons c cs' => exact ⟨c, cs', rfl⟩
        have := hdc c (by rw [e]; exact List.mem_cons_self ..)
        omega
      have hpl := hB.len
      have hps := hA1.len
      rw [List.length_append] at hps
      rw [msgF_arg h123, if_neg (by omega), argC_at (fun h' => msgF T f (d + 1) h' []) (writeF k) (sizeF k) (fun m => rightF k m (decide (x.k ≠ 4))) f (n + 1) d x h hk h1 h3 h4 (fun c hc p' n' R' hp' hA' hn' => ih c.2 (decide (x.k ≠ 4)) (d + 1) p' f n' (125 :: R') (caseR_mem h3 c hc) hA' (.inr ⟨R', rfl⟩) (by omega) hn' (by have := hdc c hc; omega)) (by omega) (by omega) hd8 hA1]
      simp only [RM.then]
      exact rest f (by omega)
theorem msg_at (T : ByteArray) : ∀ k, MsgAt T k
  | 0 => fun l h d p f n W hr => by cases hr
  | k + 1 => fun l h d p f n W hr hA hW hf hn hd => by
    have := parts_at T k (msg_at T k) l [] h 0 d p f n W hr (.inr NoTx.nil) hA hW hf hn hd
    rw [List.nil_append] at this
    exact this
/-- What is printed is read back. -/
theorem print_parse (k : Nat) (l : List PT) (T : ByteArray) (hr : rightF k l false = true) (hs : sizeF k l ≤ 1024) (hd : depthF k l ≤ 8) (hT : T.data.toList = writeF k l false) : msgF T (T.size + 1) 0 false [] 0 0 = .ok l T.size (sizeF k l) := by
  have h := msg_at T k l false 0 0 (T.size + 1) 0 [] hr ⟨Nat.zero_le _, by rw [List.append_nil, List.drop_zero]; exact hT⟩ (.inl rfl) (by omega) (by omega) (by omega)
  rw [h, ← hT, size_len]
  congr 1 <;> omega
end Go.Proofs.YtjldgcpmdcoejaaGreatDoor

namespace Go.Proofs.YtjldgcpmdcoejaaGreatDoor
open Go.RowKit

theorem ascii_ok : ∀ (l : List UInt8), (∀ b ∈ l, b.toNat < 128) → Ok l
  | [], _ => .nil
  | b :: l, h => .one (h b (List.mem_cons_self ..)) (ascii_ok l fun c hc => h c (List.mem_cons_of_mem _ hc))
theorem okP {s : ByteArray} (h : brk s < 0) : Ok s.data.toList := by
  have := ok_of s s.size 0 (by omega) (Nat.zero_le _) h
  rwa [List.drop_zero] at this
theorem brk_ok {s : ByteArray} (h : Ok s.data.toList) : brk s = -1 := ok_brk h s 0 (List.drop_zero)
theorem nameI_small {x : Nat} (h : nameI x = true) : x < 128 := by
  unfold nameI startI digI at h
  simp only [Bool.or_eq_true, Bool.and_eq_true, decide_eq_true_eq, beq_iff_eq] at h
  omega
theorem start_nameP {x : Int} (h : startI x = true) : nameI x = true := by unfold nameI; rw [h]; rfl
theorem name_ok {nm : ByteArray} (h : isNameB nm = true) : Ok nm.data.toList := by
  obtain ⟨x, X, hx, h1, h2, _⟩ := name_split h
  rw [hx]
  refine ascii_ok _ fun b hb => ?_
  rcases List.mem_cons.1 hb with rfl | hb
  · exact nameI_small (start_nameP h1)
  · exact nameI_small (h2 b hb)
theorem dig_ok {l : List UInt8} (h : ∀ x ∈ l, digI x.toNat = true) : Ok l := ascii_ok l fun b hb => nameI_small (by unfold nameI; rw [h b hb]; simp)
theorem key_ok {k : Int} {key : ByteArray} (hk : isKeyB k key = true) : Ok key.data.toList := by
  unfold isKeyB at hk
  split at hk
  · exact name_ok hk
  · split at hk
    · rename_i hp
      unfold Lib.hasPrefix at hp
      rw [List.isPrefixOf_iff_prefix] at hp
      obtain ⟨X, hX⟩ := hp
      have hx1 : (key.extract 1 key.size).data.toList = X := by rw [data_from, ← hX]; rfl
      obtain ⟨v, hv⟩ := Option.isSome_iff_exists.1 hk
      have h3 := (numV_facts hv).2.2
      rw [hx1] at h3
      rw [← hX]
      exact .one (by decide) (dig_ok h3)
    · exact name_ok (cats_name hk).1
theorem cons_ok {l : List UInt8} (h : Ok l) (b : UInt8) (hb : b.toNat < 128) : Ok (b :: l) := .one hb h
theorem caseW_ok {Wr : List PT → List UInt8} {R : List PT → Bool} {k : Int} (hW : ∀ m, R m = true → Ok (Wr m)) : ∀ (b : Bool) (cs : List CT) (ks : List ByteArray), caseR R k ks cs = true → Ok (caseW Wr b cs)
  | _, [], _, _ => .nil
  | b, c :: cs, ks, h => by
    simp only [caseR, Bool.and_eq_true] at h
    obtain ⟨⟨⟨_, h2⟩, h3⟩, h4⟩ := h
    have ih := caseW_ok hW true cs _ h4
    simp only [caseW, List.append_assoc]
    refine app_ok ?_ (app_ok (key_ok h2) (app_ok (cons_ok .nil _ (by decide)) (app_ok (hW _ h3) (app_ok (cons_ok .nil _ (by decide)) ih))))
    split
    · exact cons_ok .nil _ (by decide)
    · exact .nil
theorem part_ok {Wr : List PT → Bool → List UInt8} {R : List PT → Bool → Bool} (hW : ∀ m h, R m h = true → Ok (Wr m h)) (h : Bool) (p : PT) (hp : plainB p h = true) (hc : caseR (fun m => R m (decide (p.k ≠ 4))) p.k [] p.cs = true) : Ok (partW Wr h p) := by
  rcases plain_kinds hp with hk | hk | hk | hk
  · unfold plainB at hp
    rw [if_pos hk] at hp
    simp only [Bool.and_eq_true, decide_eq_true_eq] at hp
    unfold partW
    rw [if_pos hk]
    exact dress_ok (okP hp.1.1.1.1.1.2)
  · unfold partW
    rw [if_neg (by omega), if_pos hk]
    exact cons_ok .nil _ (by decide)
  · unfold plainB at hp
    rw [if_neg (by omega), if_neg (by omega), if_pos hk] at hp
    simp only [Bool.and_eq_true, Bool.or_eq_true, decide_eq_true_eq, Bool.not_eq_true'] at hp
    obtain ⟨⟨⟨⟨⟨h1, h2⟩, h3⟩, _⟩, _⟩, _⟩ := hp
    unfold partW
    rw [if_neg (by omega), if_neg (by omega), if_pos hk]
    refine app_ok (app_ok (app_ok (app_ok (cons_ok .nil _ (by decide)) (name_ok h3)) ?_) ?_) (cons_ok .nil _ (by decide))
    · split
      · exact .nil
      · rename_i hn
        refine app_ok (cons_ok (cons_ok .nil _ (by decide)) _ (by decide)) (name_ok (types_name (h1.resolve_left hn)).1)
    · split
      · exact .nil
      · rename_i hn
        have hst := (h2.resolve_left hn).2
        unfold isStyleB at hst
        simp only [Bool.and_eq_true, decide_eq_true_eq] at hst
        exact app_ok (cons_ok (cons_ok .nil _ (by decide)) _ (by decide)) (okP hst.1.2)
  · unfold plainB at hp
    rw [if_neg (by omega), if_neg (by omega), if_neg (by omega), if_pos hk] at hp
    simp only [Bool.and_eq_true, decide_eq_true_eq] at hp
    unfold partW
    rw [if_neg (by omega), if_neg (by omega), if_neg (by omega), if_pos hk]
    refine app_ok (app_ok (app_ok (app_ok (app_ok (app_ok (app_ok (cons_ok .nil _ (by decide)) (name_ok hp.1.1.1.2)) (cons_ok (cons_ok .nil _ (by decide)) _ (by decide))) (name_ok (word_name hk).1)) (cons_ok (cons_ok .nil _ (by decide)) _ (by decide))) ?_) (caseW_ok (fun m hm => hW m _ hm) _ _ _ hc)) (cons_ok .nil _ (by decide))
    split
    · exact .nil
    · have h0 : 0 ≤ p.off := hp.1.1.1.1.1.1.1
      have h9 : p.off ≤ 999999999 := hp.1.1.1.1.1.1.2
      exact app_ok (app_ok (ascii_ok _ (by decide)) (dig_ok (numV_facts (numV_itoa p.off h0 h9)).2.2)) (cons_ok .nil _ (by decide))
theorem writeL_ok {Wr : List PT → Bool → List UInt8} {R : List PT → Bool → Bool} (hW : ∀ m h, R m h = true → Ok (Wr m h)) (h : Bool) : ∀ (l : List PT) (q : Int), rightL R h q l = true → Ok (writeL Wr h l)
  | [], _, _ => .nil
  | p :: l, q, hr => by
    simp only [rightL, Bool.and_eq_true] at hr
    obtain ⟨⟨⟨⟨h1, _⟩, h3⟩, _⟩, h5⟩ := hr
    exact app_ok (part_ok hW h p h1 h3) (writeL_ok hW h l _ h5)
/-- The one form of right parts is right UTF-8. -/
theorem write_ok : ∀ (k : Nat) (l : List PT) (h : Bool), rightF k l h = true → Ok (writeF k l h)
  | 0, _, _, h => by cases h
  | k + 1, l, h, hr => writeL_ok (write_ok k) h l 0 hr
end Go.Proofs.YtjldgcpmdcoejaaGreatDoor

namespace Go.Proofs.YtjldgcpmdcoejaaGreatDoor
open Go.RowKit

theorem spanF_in (c : Nat → Bool) : ∀ (f p i : Nat), p ≤ i → i < spanF c f p → c i = true
  | 0, p, i, h1, h2 => by simp only [spanF] at h2; omega
  | f + 1, p, i, h1, h2 => by
    unfold spanF at h2
    split at h2
    · rename_i hc
      rcases Nat.eq_or_lt_of_le h1 with rfl | h3
      · exact hc
      · exact spanF_in c f (p + 1) i h3 h2
    · omega
section
variable {T : ByteArray}
theorem ok_run : ∀ (k p : Nat), p + k ≤ T.size → (∀ i, p ≤ i → i < p + k → byt T i < 128) → Ok (T.data.toList.drop p) → Ok (T.data.toList.drop (p + k))
  | 0, _, _, _, h => h
  | k + 1, p, hk, hb, h => by
    have hlt : p < T.data.toList.length := by rw [size_len]; omega
    rw [List.drop_eq_getElem_cons hlt] at h
    have h0 := hb p (Nat.le_refl _) (by omega)
    rw [byt_list, List.getElem?_eq_getElem hlt] at h0
    have := ok_run k (p + 1) (by omega) (fun i h1 h2 => hb i (by omega) (by omega)) (ok_tail h (by simp only at h0; omega))
    rw [show p + (k + 1) = p + 1 + k by omega]
    exact this
theorem ok_to {p q : Nat} (h : Ok (T.data.toList.drop p)) (hpq : p ≤ q) (hq : q ≤ T.size) (hb : ∀ i, p ≤ i → i < q → byt T i < 128) : Ok (T.data.toList.drop q) := by
  have := ok_run (q - p) p (by omega) (fun i h1 h2 => hb i h1 (by omega)) h
  rwa [show p + (q - p) = q by omega] at this
theorem skip_in (p i : Nat) (h1 : p ≤ i) (h2 : i < skip T p) : blI (byt T i) = true := spanF_in _ _ _ _ h1 h2
theorem blI_small {x : Int} (h : blI x = true) : x < 128 := by
  unfold blI at h
  simp only [Bool.or_eq_true, beq_iff_eq] at h
  omega
theorem nameI_lt {x : Int} (h : nameI x = true) : x < 128 := by
  unfold nameI startI digI at h
  simp only [Bool.or_eq_true, Bool.and_eq_true, decide_eq_true_eq, beq_iff_eq] at h
  omega
theorem byt_extract (a b i : Nat) (hi : i < b - a) (_hb : b ≤ T.size) : byt (T.extract a b) i = byt T (a + i) := by
  rw [byt_list, byt_list, ByteArray.data_extract, Array.toList_extract, List.extract_eq_drop_take']
  rw [List.getElem?_drop, List.getElem?_take_of_lt (by omega)]
/-- A name that was read. -/
theorem nameS_ok {p q : Nat} {nm : ByteArray} (h : nameS T p = .ok nm q) (hp : p ≤ T.size) : isNameB nm = true ∧ p + nm.size ≤ q ∧ q ≤ T.size ∧ 0 < nm.size ∧ (Ok (T.data.toList.drop p) → Ok (T.data.toList.drop q)) := by
  unfold nameS at h
  split at h
  · rename_i hst
    split at h
    · cases h
    · rename_i h64
      injection h with h1 h2
      subst h1; subst h2
      have g1 := skip_ge T p
      have g2 := skip_le T p hp
      have hlt : skip T p < T.size := by
        rcases Nat.lt_or_ge (skip T p) T.size with h | h
        · exact h
        · rw [byt_out h] at hst; exact absurd hst (by decide)
      have g3 := nameE_ge T (skip T p + 1)
      have g4 := nameE_le T (skip T p + 1) (by omega)
      have hsz : (T.extract (skip T p) (nameE T (skip T p + 1))).size = nameE T (skip T p + 1) - skip T p := by rw [ByteArray.size_extract]; omega
      have hin : ∀ i, skip T p ≤ i → i < nameE T (skip T p + 1) → nameI (byt T i) = true := fun i h1 h2 => by
        rcases Nat.eq_or_lt_of_le h1 with rfl | h3
        · exact start_nameP hst
        · exact spanF_in _ _ _ _ h3 h2
      refine ⟨?_, by omega, g4, by omega, fun ho => ok_to ho (by omega) g4 fun i h1 h2 => ?_⟩
      · unfold isNameB allB
        simp only [Bool.and_eq_true, decide_eq_true_eq]
        refine ⟨⟨⟨by omega, fun j hj => ?_⟩, ?_⟩, by omega⟩
        · rw [byt_extract _ _ _ (by omega) g4]
          exact hin _ (by omega) (by omega)
        · rw [byt_extract _ _ _ (by omega) g4, Nat.add_zero]
          exact hst
      · rcases Nat.lt_or_ge i (skip T p) with h3 | h3
        · exact blI_small (skip_in p i h1 h3)
        · exact nameI_lt (hin i h3 h2)
  · cases h
theorem signS_ok {p q : Nat} {b : Int} {u : Unit} (h : signS T b p = .ok u q) (_hp : p ≤ T.size) (h0 : 0 ≤ b) (hb : b < 128) : p + 1 ≤ q ∧ q ≤ T.size ∧ byt T (q - 1) = b ∧ (Ok (T.data.toList.drop p) → Ok (T.data.toList.drop q)) := by
  unfold signS at h
  split at h
  · rename_i hbt
    injection h with _ h2
    subst h2
    have g1 := skip_ge T p
    have hlt : skip T p < T.size := byt_lt (by omega)
    refine ⟨by omega, by omega, by simpa using hbt, fun ho => ok_to ho (by omega) (by omega) fun i h1 h2 => ?_⟩
    rcases Nat.lt_or_ge i (skip T p) with h3 | h3
    · exact blI_small (skip_in p i h1 h3)
    · have : i = skip T p := by omega
      rw [this, hbt]; exact hb
  · cases h
theorem skip_ok {p : Nat} (hp : p ≤ T.size) (ho : Ok (T.data.toList.drop p)) : Ok (T.data.toList.drop (skip T p)) := ok_to ho (skip_ge T p) (skip_le T p hp) fun i h1 h2 => blI_small (skip_in p i h1 h2)
theorem numS_ok {p q : Nat} {v : Int} (h : numS T p = .ok v q) (hp : p ≤ T.size) : numV (T.extract p q) = some v ∧ p ≤ q ∧ q ≤ T.size ∧ (Ok (T.data.toList.drop p) → Ok (T.data.toList.drop q)) := by
  unfold numS at h
  split at h
  · rename_i x hx
    injection h with h1 h2
    subst h1; subst h2
    refine ⟨hx, digE_ge T p, digE_le T p hp, fun ho => ok_to ho (digE_ge T p) (digE_le T p hp) fun i h1 h2 => ?_⟩
    have := spanF_in _ _ _ _ h1 h2
    exact nameI_lt (by unfold nameI; rw [show digI (byt T i) = true from this]; simp)
  · cases h
theorem numV_range {t : ByteArray} {v : Int} (h : numV t = some v) : 0 ≤ v ∧ v ≤ 999999999 ∧ (Lib.itoa v).length = t.size ∧ 0 < t.size := by
  have hg : goodD t.data.toList = true := by rw [← numV_good, h]; rfl
  obtain ⟨h1, h2, h3⟩ := numV_facts h
  unfold goodD at hg
  simp only [Bool.and_eq_true, decide_eq_true_eq] at hg
  obtain ⟨⟨⟨g1, g2⟩, g3⟩, _⟩ := hg
  obtain ⟨u, rfl⟩ : ∃ u : Nat, v = u := ⟨v.toNat, by omega⟩
  have hl := valD_lt (Lib.decDigits u) 0 (dec_all u)
  rw [dec_val] at hl
  rw [itoa_nat] at h1
  have : 10 ^ (Lib.decDigits u).length ≤ 10 ^ 9 := Nat.pow_le_pow_right (by omega) (by rw [h1]; exact g2)
  refine ⟨h2, by omega, by rw [itoa_nat, h1, size_len], by rw [← size_len]; omega⟩
end
end Go.Proofs.YtjldgcpmdcoejaaGreatDoor

namespace Go.Proofs.YtjldgcpmdcoejaaGreatDoor
open Go.RowKit

theorem spanF_stop (c : Nat → Bool) : ∀ (f p : Nat), spanF c f p < p + f → c (spanF c f p) = false
  | 0, p, h => by simp only [spanF] at h; omega
  | f + 1, p, h => by
    unfold spanF at h ⊢
    split
    · rename_i hc
      rw [if_pos hc] at h
      exact spanF_stop c f (p + 1) (by omega)
    · rename_i hc; simpa using hc
def blB (b : UInt8) : Bool := blI b.toNat
theorem dropW_id {c : UInt8 → Bool} {l : List UInt8} (h : ∀ b, l.head? = some b → c b = false) : l.dropWhile c = l := by
  cases l with
  | nil => rfl
  | cons x l => rw [List.dropWhile_cons, h x rfl]; rfl
theorem dropW_split (c : UInt8 → Bool) : ∀ l : List UInt8, ∃ Y, l = Y ++ l.dropWhile c ∧ ∀ b ∈ Y, c b = true
  | [] => ⟨[], rfl, fun _ h => by cases h⟩
  | x :: l => by
    rw [List.dropWhile_cons]
    cases hx : c x
    · exact ⟨[], rfl, fun _ h => by cases h⟩
    · obtain ⟨Y, h1, h2⟩ := dropW_split c l
      refine ⟨x :: Y, by rw [List.cons_append, if_pos rfl, ← h1], fun b hb => ?_⟩
      rcases List.mem_cons.1 hb with rfl | hb
      · exact hx
      · exact h2 b hb
theorem trimR_split (l : List UInt8) : ∃ Y, l = trimR l ++ Y ∧ ∀ b ∈ Y, blB b = true := by
  obtain ⟨Y, h1, h2⟩ := dropW_split blB l.reverse
  refine ⟨Y.reverse, ?_, fun b hb => h2 b (List.mem_reverse.1 hb)⟩
  have := congrArg List.reverse h1
  rw [List.reverse_reverse, List.reverse_append] at this
  exact this
theorem blB_small {b : UInt8} (h : blB b = true) : b.toNat < 128 := by
  have := blI_small (x := (b.toNat : Int)) h
  omega
/-- A stretch ahead of what is not in the way. -/
theorem ok_left {X Y : List UInt8} (h : Ok (X ++ Y)) (hY : ∀ b, Y.head? = some b → b.toNat < 128) : Ok X ∧ Ok Y := by
  cases Y with
  | nil => rw [List.append_nil] at h; exact ⟨h, .nil⟩
  | cons m R => exact split_ok h X m R rfl (hY m rfl)
theorem ok_right : ∀ {X Y : List UInt8}, (∀ b ∈ X, b.toNat < 128) → Ok (X ++ Y) → Ok Y
  | [], _, _, h => h
  | x :: X, _, hX, h => ok_right (X := X) (fun b hb => hX b (List.mem_cons_of_mem _ hb)) (ok_tail h (hX x (List.mem_cons_self ..)))
theorem head_mem {l : List UInt8} {b : UInt8} (h : l.head? = some b) : b ∈ l := by
  cases l with
  | nil => cases h
  | cons x l => simp at h; subst h; exact List.mem_cons_self ..
theorem trim_ok {l : List UInt8} (h : Ok l) : Ok (trimL (trimR l)) := by
  obtain ⟨Y, h1, h2⟩ := trimR_split l
  have h3 : Ok (trimR l) := (ok_left (Y := Y) (by rw [← h1]; exact h) (fun b hb => blB_small (h2 b (head_mem hb)))).1
  obtain ⟨Z, h4, h5⟩ := dropW_split blB (trimR l)
  exact ok_right (X := Z) (fun b hb => blB_small (h5 b hb)) (by rw [show trimL (trimR l) = (trimR l).dropWhile blB from rfl, ← h4]; exact h3)
theorem trim_mem {l : List UInt8} {b : UInt8} (h : b ∈ trimL (trimR l)) : b ∈ l := by
  obtain ⟨Y, h1, _⟩ := trimR_split l
  obtain ⟨Z, h4, _⟩ := dropW_split blB (trimR l)
  rw [h1]
  refine List.mem_append_left _ ?_
  rw [h4]
  exact List.mem_append_right _ h
theorem trim_len (l : List UInt8) : (trimL (trimR l)).length ≤ l.length := by
  obtain ⟨Y, h1, _⟩ := trimR_split l
  obtain ⟨Z, h4, _⟩ := dropW_split blB (trimR l)
  have e1 := congrArg List.length h1
  have e2 := congrArg List.length h4
  rw [List.length_append] at e1 e2
  have : (trimL (trimR l)).length = ((trimR l).dropWhile blB).length := rfl
  omega
theorem trim_idem (l : List UInt8) : trimL (trimR (trimL (trimR l))) = trimL (trimR l) := by
  have hhead : ∀ b, (trimL (trimR l)).head? = some b → blB b = false := fun b hb => drop_head blB _ b hb
  have hR : trimR (trimL (trimR l)) = trimL (trimR l) := by
    have hlast : ∀ b, (trimR l).reverse.head? = some b → blB b = false := fun b hb => by
      unfold trimR at hb
      rw [List.reverse_reverse] at hb
      exact drop_head blB _ b hb
    obtain ⟨Z, h4, _⟩ := dropW_split blB (trimR l)
    have h4' : trimR l = Z ++ trimL (trimR l) := h4
    generalize trimL (trimR l) = C at *
    unfold trimR
    have : trimL C.reverse = C.reverse := dropW_id fun b hb => by
      refine hlast b ?_
      rw [h4', List.reverse_append]
      cases hC : C.reverse with
      | nil => rw [hC] at hb; cases hb
      | cons x X => rw [hC] at hb; simpa using hb
    rw [this, List.reverse_reverse]
  rw [hR]
  exact dropW_id hhead
theorem trimB_list (t : ByteArray) : (trimB t).data.toList = trimL (trimR t.data.toList) := by simp [trimB]
section
variable {T : ByteArray}
/-- A style that was read. -/
theorem styleS_ok {p q : Nat} {st : ByteArray} (h : styleS T p = .ok st q) (hp : p ≤ T.size) (ho : Ok (T.data.toList.drop p)) : isStyleB st = true ∧ p + st.size ≤ q ∧ q ≤ T.size ∧ Ok (T.data.toList.drop q) := by
  unfold styleS at h
  split at h
  · cases h
  · rename_i h0
    split at h
    · cases h
    · rename_i h64
      injection h with h1 h2
      subst h1; subst h2
      have g1 := skip_ge T p
      have g2 := skip_le T p hp
      have g3 := styE_ge T (skip T p)
      have g4 := styE_le T (skip T p) g2
      have hs := skip_ok hp ho
      obtain ⟨X, hX⟩ : ∃ X, (T.extract (skip T p) (styE T (skip T p))).data.toList = X := ⟨_, rfl⟩
      have hXl : X.length = styE T (skip T p) - skip T p := by rw [← hX, size_len, ByteArray.size_extract]; omega
      have hsplit : T.data.toList.drop (skip T p) = X ++ T.data.toList.drop (styE T (skip T p)) := by
        rw [← hX, ByteArray.data_extract, Array.toList_extract, List.extract_eq_drop_take']
        rw [List.drop_take]
        have := List.take_append_drop (styE T (skip T p) - skip T p) (T.data.toList.drop (skip T p))
        rw [List.drop_drop, show skip T p + (styE T (skip T p) - skip T p) = styE T (skip T p) by omega] at this
        exact this.symm
      have hin : ∀ b ∈ X, styI b.toNat = true := fun b hb => by
        obtain ⟨i, hi⟩ := List.mem_iff_getElem?.1 hb
        have hil : i < X.length := (List.getElem?_eq_some_iff.1 hi).1
        have := spanF_in (fun i => styI (byt T i)) (T.size - skip T p) (skip T p) (skip T p + i) (by omega) (show skip T p + i < styE T (skip T p) by omega)
        have e : byt T (skip T p + i) = b.toNat := by
          rw [← byt_extract (skip T p) (styE T (skip T p)) i (by omega) g4, byt_list, hX, hi]
        rw [e] at this
        exact this
      have hend : ∀ b, (T.data.toList.drop (styE T (skip T p))).head? = some b → b.toNat < 128 := fun b hb => by
        have hlt : styE T (skip T p) < T.size := by
          rcases Nat.lt_or_ge (styE T (skip T p)) T.size with h | h
          · exact h
          · rw [List.drop_of_length_le (by rw [size_len]; exact h)] at hb; cases hb
        have hno : styI (byt T (styE T (skip T p))) = false := spanF_stop (fun i => styI (byt T i)) (T.size - skip T p) (skip T p) (show styE T (skip T p) < skip T p + (T.size - skip T p) by omega)
        have e : byt T (styE T (skip T p)) = b.toNat := by
          rw [byt_list]
          rw [List.head?_drop] at hb
          rw [hb]
        rw [e] at hno
        unfold styI at hno
        simp only [Bool.and_eq_false_iff, decide_eq_false_iff_not, Bool.not_eq_false', beq_iff_eq] at hno
        omega
      rw [hsplit] at hs
      obtain ⟨hOX, hOq⟩ := ok_left hs hend
      have hlist : (trimB (T.extract (skip T p) (styE T (skip T p)))).data.toList = trimL (trimR X) := by rw [trimB_list, hX]
      have hsz : (trimB (T.extract (skip T p) (styE T (skip T p)))).size = (trimL (trimR X)).length := by rw [← size_len, hlist]
      have htl := trim_len X
      refine ⟨?_, by omega, g4, hOq⟩
      unfold isStyleB
      simp only [Bool.and_eq_true, Bool.not_eq_true', decide_eq_true_eq]
      refine ⟨⟨⟨⟨?_, by omega⟩, ?_⟩, ?_⟩, ?_⟩
      · unfold noB; exact decide_eq_false h0
      · apply ByteArray.ext
        apply Array.toList_inj.1
        rw [trimB_list, hlist, trim_idem]
      · rw [brk_ok (by rw [hlist]; exact trim_ok hOX)]; decide
      · rw [hlist, List.any_eq_false]
        intro b hb
        have h5 := hin b (trim_mem hb)
        unfold styI at h5
        simp only [Bool.and_eq_true, decide_eq_true_eq, Bool.not_eq_true', beq_eq_false_iff_ne] at h5
        simp only [quoB, Bool.or_eq_true, beq_iff_eq, not_or]
        refine ⟨⟨fun e => h5.1.1.2 (by rw [e]; rfl), fun e => h5.1.2 (by rw [e]; rfl)⟩, fun e => h5.2 (by rw [e]; rfl)⟩
/-- A key that was read. -/
theorem keyS_ok {k : Int} {p q : Nat} {key : ByteArray} (h : keyS T k p = .ok key q) (hp : p ≤ T.size) : isKeyB k key = true ∧ p + key.size ≤ q ∧ q ≤ T.size ∧ 0 < key.size ∧ (Ok (T.data.toList.drop p) → Ok (T.data.toList.drop q)) := by
  unfold keyS at h
  split at h
  · rename_i hc
    cases hn : numS T (p + 1) with
    | out => rw [hn] at h; cases h
    | bad e x => rw [hn] at h; cases h
    | ok v e =>
      rw [hn] at h
      simp only [RR.then] at h
      injection h with h1 h2
      subst h1; subst h2
      have hlt : p < T.size := byt_lt (by omega)
      obtain ⟨n1, n2, n3, n4⟩ := numS_ok hn hlt
      obtain ⟨r1, r2, r3, r4⟩ := numV_range n1
      have hes : (T.extract (p + 1) e).size = e - (p + 1) := by rw [ByteArray.size_extract]; omega
      have hkl : (eqKey v).data.toList = 61 :: Lib.itoa v := by simp [eqKey]
      have hks : (eqKey v).size = 1 + (Lib.itoa v).length := by rw [← size_len, hkl]; simp; omega
      refine ⟨?_, by omega, n3, by omega, fun ho => n4 ?_⟩
      · unfold isKeyB
        rw [if_neg hc.1, if_pos (by rw [hkl]; rfl)]
        have : (eqKey v).extract 1 (eqKey v).size = T.extract (p + 1) e := by
          apply ByteArray.ext
          apply Array.toList_inj.1
          rw [data_from, hkl]
          exact (numV_facts n1).1
        rw [this, n1]
        rfl
      · exact ok_to ho (by omega) (by omega) fun i h1 h2 => by
          have : i = p := by omega
          rw [this, hc.2]; decide
  · rename_i hc
    cases hn : nameS T p with
    | out => rw [hn] at h; cases h
    | bad e x => rw [hn] at h; cases h
    | ok t e =>
      rw [hn] at h
      simp only [RR.then] at h
      split at h
      · cases h
      · rename_i hm
        injection h with h1 h2
        subst h1; subst h2
        obtain ⟨n1, n2, n3, n4, n5⟩ := nameS_ok hn hp
        refine ⟨?_, n2, n3, n4, n5⟩
        unfold isKeyB
        by_cases h4 : k = 4
        · rw [if_pos h4]; exact n1
        · rw [if_neg h4]
          obtain ⟨x, X, hx, hst, _, _⟩ := name_split n1
          rw [if_neg (by
            rw [hx]
            intro hp2
            unfold Lib.hasPrefix at hp2
            rw [List.isPrefixOf_iff_prefix] at hp2
            obtain ⟨Y, hY⟩ := hp2
            simp at hY
            rw [← hY.1] at hst
            exact absurd hst (by decide))]
          cases hmm : memW catsW t
          · exact absurd ⟨h4, hmm⟩ hm
          · rfl
end
end Go.Proofs.YtjldgcpmdcoejaaGreatDoor

namespace Go.Proofs.YtjldgcpmdcoejaaGreatDoor
open Go.RowKit

section
variable {T : ByteArray}
theorem offS_ok {k off : Int} {p q : Nat} (h : offS T k p = .ok off q) (hp : p ≤ T.size) : 0 ≤ off ∧ off ≤ 999999999 ∧ (k ≠ 4 ∨ off = 0) ∧ p ≤ q ∧ q ≤ T.size ∧ (Ok (T.data.toList.drop p) → Ok (T.data.toList.drop q)) ∧ (offL off).length ≤ 4 * (q - p) := by
  unfold offS at h
  split at h
  · rename_i hc
    obtain ⟨h4, hpre⟩ := hc
    rw [data_from] at hpre
    unfold Lib.hasPrefix at hpre
    rw [List.isPrefixOf_iff_prefix] at hpre
    obtain ⟨Y, hY⟩ := hpre
    have hlen := congrArg List.length hY
    rw [List.length_drop, size_len, List.length_append] at hlen
    have h7 : offW.length = 7 := rfl
    cases hn : numS T (skip T (p + 7)) with
    | out => rw [hn] at h; cases h
    | bad e x => rw [hn] at h; cases h
    | ok v e =>
      rw [hn] at h
      simp only [RR.then] at h
      injection h with h1 h2
      subst h1; subst h2
      have g1 := skip_ge T (p + 7)
      have g2 := skip_le T (p + 7) (by omega)
      obtain ⟨n1, n2, n3, n4⟩ := numS_ok hn g2
      obtain ⟨r1, r2, r3, r4⟩ := numV_range n1
      have g3 := skip_ge T e
      have g4 := skip_le T e n3
      have hes : (T.extract (skip T (p + 7)) e).size = e - skip T (p + 7) := by rw [ByteArray.size_extract]; omega
      refine ⟨r1, r2, .inl h4, by omega, g4, fun ho => skip_ok n3 (n4 (skip_ok (by omega) ?_)), ?_⟩
      · have : T.data.toList.drop (p + 7) = Y := by
          rw [← List.drop_drop, ← hY, ← h7, List.drop_left]
        rw [this]
        rw [← hY] at ho
        exact ok_right (X := offW) (by decide) ho
      · unfold offL
        split
        · simp
        · simp only [List.length_append, List.length_cons, List.length_nil, h7]
          omega
  · injection h with h1 h2
    subst h1; subst h2
    exact ⟨Int.le_refl _, by omega, .inr rfl, Nat.le_refl _, hp, fun h => h, by simp [offL]⟩
/-- What a reader of messages has to give. -/
def GoodM (T : ByteArray) (M : Nat → Nat → RM (List PT)) (RB : List PT → Bool) (WR : List PT → List UInt8) (SZ : List PT → Nat) (DEP : List PT → Prop) : Prop := ∀ (p n : Nat) (l : List PT) (q n' : Nat), M p n = .ok l q n' → p ≤ T.size → n ≤ 1024 → Ok (T.data.toList.drop p) →
  RB l = true ∧ n' = n + SZ l ∧ n' ≤ 1024 ∧ DEP l ∧ (WR l).length ≤ 4 * (q - p) ∧ p ≤ q ∧ q ≤ T.size ∧ (q = T.size ∨ byt T q = 125) ∧ Ok (T.data.toList.drop q)
theorem caseW_true (WR : List PT → List UInt8) : ∀ cs : List CT, (caseW WR true cs).length ≤ (caseW WR false cs).length + 1
  | [] => Nat.zero_le _
  | c :: cs => by simp [caseW]
theorem caseF_ok {M : Nat → Nat → RM (List PT)} {RB : List PT → Bool} {WR : List PT → List UInt8} {SZ : List PT → Nat} {DEP : List PT → Prop} (hM : GoodM T M RB WR SZ DEP) (k : Int) : ∀ (f : Nat) (acc : List CT) (p n : Nat) (r : List CT) (q n' : Nat), caseF T M k f acc p n = .ok r q n' → p ≤ T.size → n ≤ 1024 → Ok (T.data.toList.drop p) →
    ∃ cs, r = acc ++ cs ∧ cs ≠ [] ∧ caseR RB k (acc.map Prod.fst) cs = true ∧ n' = n + sumC SZ cs ∧ n' ≤ 1024 ∧ (∀ c ∈ cs, DEP c.2) ∧ (caseW WR false cs).length ≤ 4 * (q - p) ∧ p ≤ q ∧ q < T.size ∧ byt T q = 125 ∧ Ok (T.data.toList.drop q)
  | 0, _, _, _, _, _, _, h, _, _, _ => by cases h
  | f + 1, acc, p, n, r, q, n', h, hp, hn, ho => by
    rw [caseF] at h
    obtain ⟨key, p1, e1, h⟩ := rr_then h
    split at h
    · cases h
    rename_i hmem
    obtain ⟨u, p2, e2, h⟩ := rr_then h
    obtain ⟨l, p3, n3, e3, h⟩ := rm_then h
    obtain ⟨a1, a2, a3, a4, a5⟩ := keyS_ok e1 hp
    obtain ⟨b1, b2, _, b4⟩ := signS_ok e2 a3 (by decide) (by decide)
    obtain ⟨c1, c2, c3, c4, c5, c6, c7, c8, c9⟩ := hM p2 n l p3 n3 e3 b2 hn (b4 (a5 ho))
    split at h
    · cases h
    rename_i hsz
    have h125 : byt T p3 = 125 := c8.resolve_left hsz
    have hlt := byt_lt (show 0 ≤ byt T p3 by omega)
    have hO1 : Ok (T.data.toList.drop (p3 + 1)) := ok_to c9 (by omega) (by omega) fun i h1 h2 => by
      have : i = p3 := by omega
      rw [this, h125]; decide
    have hO2 := skip_ok (by omega) hO1
    have g1 := skip_ge T (p3 + 1)
    have g2 := skip_le T (p3 + 1) (by omega)
    have hmem' : memW (acc.map Prod.fst) key = false := by simpa using hmem
    split at h
    · rename_i hend
      injection h with h1 h2 h3
      subst h1; subst h2; subst h3
      have hlt2 := byt_lt (show 0 ≤ byt T (skip T (p3 + 1)) by omega)
      refine ⟨[(key, l)], rfl, by simp, ?_, by simp [sumC, c2], c3, fun c hc => by simp at hc; subst hc; exact c4, ?_, by omega, hlt2, hend, hO2⟩
      · simp only [caseR, Bool.and_true]
        rw [hmem', a1, c1]; rfl
      · simp only [caseW, Bool.false_eq_true, if_false, List.nil_append, List.append_nil, List.length_append, List.length_cons, List.length_nil, size_len]
        omega
    · obtain ⟨cs, d1, d2, d3, d4, d5, d6, d7, d8, d9, d10, d11⟩ := caseF_ok hM k f (acc ++ [(key, l)]) (skip T (p3 + 1)) n3 r q n' h g2 c3 hO2
      refine ⟨(key, l) :: cs, by rw [d1, List.append_assoc]; rfl, by simp, ?_, by simp only [sumC]; omega, d5, fun c hc => ?_, ?_, by omega, d9, d10, d11⟩
      · simp only [caseR]
        rw [hmem', a1, c1]
        simpa using d3
      · rcases List.mem_cons.1 hc with rfl | hc
        · exact c4
        · exact d6 c hc
      · have := caseW_true WR cs
        simp only [caseW, Bool.false_eq_true, if_false, List.nil_append, List.length_append, List.length_cons, List.length_nil, size_len]
        omega
theorem noB_emp : noB ⟨#[]⟩ = true := rfl
theorem noB_pos {t : ByteArray} (h : 0 < t.size) : noB t = false := by unfold noB; exact decide_eq_false (by omega)
theorem wordK_cases {w : ByteArray} (h0 : wordK w ≠ 0) : (wordK w = 3 ∧ memW typesW w = true) ∨ ((wordK w = 4 ∨ wordK w = 5 ∨ wordK w = 6) ∧ w = wordB (wordK w)) := by
  unfold wordK at h0 ⊢
  split
  · rename_i h; subst h; exact .inr ⟨.inl rfl, rfl⟩
  · split
    · rename_i h; subst h; exact .inr ⟨.inr (.inl rfl), rfl⟩
    · split
      · rename_i h; subst h; exact .inr ⟨.inr (.inr rfl), rfl⟩
      · split
        · rename_i h; exact .inl ⟨rfl, h⟩
        · rename_i h1 h2 h3 h4
          rw [if_neg h1, if_neg h2, if_neg h3, if_neg h4] at h0
          exact absurd rfl h0
/-- An argument that was read. -/
theorem argS_ok {M : Bool → Nat → Nat → RM (List PT)} {R : List PT → Bool → Bool} {Wr : List PT → Bool → List UInt8} {SZ : List PT → Nat} {DEP : List PT → Prop} (f : Nat) {p n d q n' : Nat} {x : PT} (hM : d ≠ 8 → ∀ h', GoodM T (M h') (fun m => R m h') (fun m => Wr m h') SZ DEP) (h : argS T M f p n d = .ok x q n') (hp : p < T.size) (hb : byt T p = 123) (hn : n ≤ 1024) (ho : Ok (T.data.toList.drop p)) (hh : Bool) :
    plainB x hh = true ∧ x.k ≠ 1 ∧ caseR (fun m => R m (decide (x.k ≠ 4))) x.k [] x.cs = true ∧ otherB x = true ∧ n' = n + sumC SZ x.cs ∧ n' ≤ 1024 ∧ (∀ c ∈ x.cs, d ≠ 8 ∧ DEP c.2) ∧ (partW Wr hh x).length ≤ 4 * (q - p) ∧ p < q ∧ q ≤ T.size ∧ Ok (T.data.toList.drop q) := by
  have hO1 : Ok (T.data.toList.drop (p + 1)) := ok_to ho (by omega) (by omega) fun i h1 h2 => by
    have : i = p := by omega
    rw [this, hb]; decide
  unfold argS at h
  obtain ⟨nm, p1, e1, h⟩ := rr_then h
  obtain ⟨a1, a2, a3, a4, a5⟩ := nameS_ok e1 (by omega)
  have hO2 := a5 hO1
  have hO3 := skip_ok a3 hO2
  have g1 := skip_ge T p1
  have g2 := skip_le T p1 a3
  split at h
  · rename_i h125
    injection h with h1 h2 h3
    subst h1; subst h2; subst h3
    have hlt := byt_lt (show 0 ≤ byt T (skip T p1) by omega)
    refine ⟨?_, (by show (3:Int) ≠ 1; decide), rfl, rfl, by simp [sumC], hn, (fun c hc => absurd hc List.not_mem_nil), ?_, by omega, by omega, ok_to hO3 (by omega) (by omega) fun i h1 h2 => ?_⟩
    · unfold plainB
      simp [noB_emp, a1]
    · simp [partW, noB_emp]
      omega
    · have : i = skip T p1 := by omega
      rw [this, h125]; decide
  · obtain ⟨u, p2, e2, h⟩ := rr_then h
    obtain ⟨b1, b2, _, b4⟩ := signS_ok e2 g2 (by decide) (by decide)
    have hO4 := skip_ok b2 (b4 hO3)
    have g3 := skip_ge T p2
    have g4 := skip_le T p2 b2
    obtain ⟨w, p3, e3, h⟩ := rr_then h
    obtain ⟨c1, c2, c3, c4, c5⟩ := nameS_ok e3 g4
    have hO5 := c5 hO4
    split at h
    · cases h
    rename_i hw0
    split at h
    · rename_i hw3
      have hty : memW typesW w = true := by
        rcases wordK_cases hw0 with h | h
        · exact h.2
        · omega
      have hO6 := skip_ok c3 hO5
      have g5 := skip_ge T p3
      have g6 := skip_le T p3 c3
      split at h
      · rename_i h44
        have hlt := byt_lt (show 0 ≤ byt T (skip T p3) by omega)
        obtain ⟨st, p4, e4, h⟩ := rr_then h
        have hO7 : Ok (T.data.toList.drop (skip T p3 + 1)) := ok_to hO6 (by omega) (by omega) fun i h1 h2 => by
          have : i = skip T p3 := by omega
          rw [this, h44]; decide
        obtain ⟨s1, s2, s3, s4⟩ := styleS_ok e4 (by omega) hO7
        obtain ⟨u2, p5, e5, h⟩ := rr_then h
        obtain ⟨t1, t2, _, t4⟩ := signS_ok e5 s3 (by decide) (by decide)
        injection h with h1 h2 h3
        subst h1; subst h2; subst h3
        refine ⟨?_, (by show (3:Int) ≠ 1; decide), rfl, rfl, by simp [sumC], hn, (fun c hc => absurd hc List.not_mem_nil), ?_, by omega, t2, t4 s4⟩
        · unfold plainB
          simp [noB_emp, a1, hty, s1, noB_pos c4]
        · have : (partW Wr hh (⟨3, ⟨#[]⟩, nm, w, st, 0, []⟩ : PT)).length ≤ nm.size + w.size + st.size + 6 := by
            unfold partW
            rw [if_neg (by show ¬ (3:Int) = 1; decide), if_neg (by show ¬ (3:Int) = 2; decide), if_pos rfl]
            simp only [List.length_append, List.length_cons, List.length_nil, size_len]
            split <;> split <;> simp <;> omega
          omega
      · obtain ⟨u2, p5, e5, h⟩ := rr_then h
        obtain ⟨t1, t2, _, t4⟩ := signS_ok e5 g6 (by decide) (by decide)
        injection h with h1 h2 h3
        subst h1; subst h2; subst h3
        refine ⟨?_, (by show (3:Int) ≠ 1; decide), rfl, rfl, by simp [sumC], hn, (fun c hc => absurd hc List.not_mem_nil), ?_, by omega, t2, t4 hO6⟩
        · unfold plainB
          simp [noB_emp, a1, hty]
        · have : (partW Wr hh (⟨3, ⟨#[]⟩, nm, w, ⟨#[]⟩, 0, []⟩ : PT)).length ≤ nm.size + w.size + 4 := by
            unfold partW
            rw [if_neg (by show ¬ (3:Int) = 1; decide), if_neg (by show ¬ (3:Int) = 2; decide), if_pos rfl]
            simp only [List.length_append, List.length_cons, List.length_nil, size_len, noB_emp, if_true]
            split <;> simp <;> omega
          omega
    · rename_i hw3
      have hwc : (wordK w = 4 ∨ wordK w = 5 ∨ wordK w = 6) ∧ w = wordB (wordK w) := by
        rcases wordK_cases hw0 with h | h
        · exact absurd h.1 hw3
        · exact h
      obtain ⟨u2, p4, e4, h⟩ := rr_then h
      obtain ⟨s1, s2, _, s4⟩ := signS_ok e4 c3 (by decide) (by decide)
      obtain ⟨y, p5, n5, e5, h⟩ := rm_then h
      unfold choiS at e5
      split at e5
      · cases e5
      rename_i hd8
      obtain ⟨off, p6, e6, e5⟩ := rr_then e5
      obtain ⟨cs, p7, n7, e7, e5⟩ := rm_then e5
      split at e5
      · rename_i hoth
        injection e5 with h1 h2 h3
        subst h1; subst h2; subst h3
        have hO6 := s4 hO5
        have g5 := skip_ge T p4
        have g6 := skip_le T p4 s2
        obtain ⟨o1, o2, o3, o4, o5, o6, o7⟩ := offS_ok e6 g6
        obtain ⟨cs', d1, d2, d3, d4, d5, d6, d7, d8, d9, d10, d11⟩ := caseF_ok (hM hd8 (decide (wordK w ≠ 4))) (wordK w) f [] p6 n cs p7 n7 e7 o5 hn (o6 (skip_ok s2 hO6))
        rw [List.nil_append] at d1
        subst d1
        obtain ⟨u3, p8, e8, h⟩ := rr_then h
        obtain ⟨t1, t2, _, t4⟩ := signS_ok e8 (by omega) (by decide) (by decide)
        injection h with h1 h2 h3
        subst h1; subst h2; subst h3
        have hwk := hwc.1
        have hwl : (wordB (wordK w)).size ≤ 13 := by rcases hwk with h | h | h <;> rw [h] <;> decide
        have hws : w.size = (wordB (wordK w)).size := by rw [← hwc.2]
        have hlen : cs.length ≠ 0 := fun hc => d2 (List.eq_nil_of_length_eq_zero hc)
        refine ⟨?_, by simp only; omega, d3, ?_, d4, d5, fun c hc => ⟨hd8, d6 c hc⟩, ?_, by omega, t2, t4 d11⟩
        · unfold plainB
          simp only
          rw [if_neg (by omega), if_neg (by omega), if_neg (by omega), if_pos hwk]
          simp only [Bool.and_eq_true, Bool.or_eq_true, decide_eq_true_eq, Bool.not_eq_true', decide_eq_false_iff_not]
          exact ⟨⟨⟨⟨⟨⟨⟨o1, o2⟩, o3⟩, hlen⟩, a1⟩, noB_emp⟩, noB_emp⟩, noB_emp⟩
        · unfold otherB
          simp only
          rw [hoth]; simp
        · have : (partW Wr hh (⟨wordK w, ⟨#[]⟩, nm, ⟨#[]⟩, ⟨#[]⟩, off, cs⟩ : PT)).length = nm.size + w.size + 6 + (offL off).length + (caseW (fun m => Wr m (decide (wordK w ≠ 4))) false cs).length := by
            unfold partW offL
            simp only
            rw [if_neg (by omega), if_neg (by omega), if_neg (by omega), if_pos hwk, hws]
            simp only [List.length_append, List.length_cons, List.length_nil, size_len]
            omega
          refine Nat.le_trans (Nat.le_of_eq this) ?_
          omega
      · cases e5
end
end Go.Proofs.YtjldgcpmdcoejaaGreatDoor

namespace Go.Proofs.YtjldgcpmdcoejaaGreatDoor
open Go.RowKit

def lastK : Int → List PT → Int
  | q, [] => q
  | _, p :: l => lastK p.k l
theorem lastK_snoc (x : PT) : ∀ (l : List PT) (q : Int), lastK q (l ++ [x]) = x.k
  | [], _ => rfl
  | p :: l, _ => lastK_snoc x l p.k
theorem rightL_snoc {R : List PT → Bool → Bool} {h : Bool} {x : PT} : ∀ {l : List PT} {q : Int}, rightL R h q l = true → plainB x h = true → ¬ (x.k = 1 ∧ lastK q l = 1) → caseR (fun m => R m (decide (x.k ≠ 4))) x.k [] x.cs = true → otherB x = true → rightL R h q (l ++ [x]) = true
  | [], q, _, h1, h2, h3, h4 => by
    simp only [List.nil_append, rightL, h1, h3, h4, Bool.and_true, Bool.true_and]
    cases e : (x.k == 1 && q == 1)
    · rfl
    · exfalso
      rw [Bool.and_eq_true, beq_iff_eq, beq_iff_eq] at e
      exact h2 e
  | p :: l, q, hr, h1, h2, h3, h4 => by
    simp only [rightL, List.cons_append, Bool.and_eq_true] at hr ⊢
    exact ⟨hr.1, rightL_snoc hr.2 h1 h2 h3 h4⟩
theorem writeL_snoc {W : List PT → Bool → List UInt8} {h : Bool} {x : PT} : ∀ (l : List PT), writeL W h (l ++ [x]) = writeL W h l ++ partW W h x
  | [] => by simp [writeL]
  | p :: l => by rw [List.cons_append, writeL, writeL, writeL_snoc l, List.append_assoc]
theorem sumL_snoc {S : List PT → Nat} {x : PT} : ∀ (l : List PT), sumL S (l ++ [x]) = sumL S l + sumC S x.cs
  | [] => by simp [sumL]
  | p :: l => by rw [List.cons_append, sumL, sumL, sumL_snoc l]; omega
theorem dressL_two (h : Bool) (l : List UInt8) : (dressL h l).length ≤ 2 * l.length + 2 := by
  unfold dressL
  split
  · have e : l.take (l.findIdx (specB h)) ++ ((l.take (lastN (specB h) l)).drop (l.findIdx (specB h)) ++ l.drop (lastN (specB h) l)) = l := by
      rename_i ha
      have h1 := first_last ha
      have h2 : l.take (l.findIdx (specB h)) = (l.take (lastN (specB h) l)).take (l.findIdx (specB h)) := by rw [List.take_take, Nat.min_eq_left (by omega)]
      rw [← List.append_assoc, h2, List.take_append_drop, List.take_append_drop]
    have e' := congrArg List.length e
    simp only [List.length_append] at e'
    simp only [List.length_append, List.length_cons, List.length_nil]
    have g1 := dbl_le (l.take (l.findIdx (specB h)))
    have g2 := dbl_le ((l.take (lastN (specB h) l)).drop (l.findIdx (specB h)))
    have g3 := dbl_le (l.drop (lastN (specB h) l))
    omega
  · have := dbl_le l; omega
def tailA (a : List UInt8) : List PT := if a = [] then [] else [textP ⟨a.toArray⟩]
theorem toArr_list (a : List UInt8) : (⟨a.toArray⟩ : ByteArray).data.toList = a := by simp
theorem toArr_back (t : ByteArray) : (⟨t.data.toList.toArray⟩ : ByteArray) = t := by
  apply ByteArray.ext; simp
section
variable {T : ByteArray}
/-- In the midst of reading parts: what is done, and the text that may go on. -/
def Mid (T : ByteArray) (k : Nat) (h : Bool) (d p0 n0 : Nat) (l : List PT) (p n : Nat) : Prop := ∃ done a, l = done ++ tailA a ∧ rightL (rightF k) h 0 done = true ∧ lastK 0 done ≠ 1 ∧ Ok (a ++ T.data.toList.drop p) ∧ (writeL (writeF k) h done).length + 4 * a.length ≤ 4 * (p - p0) ∧ (∀ x ∈ done, ∀ c ∈ x.cs, depthF k c.2 + 1 + d ≤ 8) ∧ n = n0 + l.length + sumL (sizeF k) done ∧ n ≤ 1024 ∧ p0 ≤ p ∧ p ≤ T.size
/-- Parts that were read whole. -/
def Fin' (T : ByteArray) (k : Nat) (h : Bool) (d p0 n0 : Nat) (l : List PT) (p n : Nat) : Prop := rightL (rightF k) h 0 l = true ∧ Ok (T.data.toList.drop p) ∧ (writeL (writeF k) h l).length ≤ 4 * (p - p0) ∧ (∀ x ∈ l, ∀ c ∈ x.cs, depthF k c.2 + 1 + d ≤ 8) ∧ n = n0 + l.length + sumL (sizeF k) l ∧ n ≤ 1024 ∧ p0 ≤ p ∧ p ≤ T.size
variable {k d p0 n0 p n : Nat} {h : Bool} {l : List PT}
theorem byt_head {b : UInt8} (hb : (T.data.toList.drop p).head? = some b) : byt T p = b.toNat := by
  rw [byt_list]
  rw [List.head?_drop] at hb
  rw [hb]
theorem text_right {a : List UInt8} (ha : Ok a) (hne : a ≠ []) : plainB (textP ⟨a.toArray⟩) h = true := by
  unfold plainB textP
  have hb : brk (⟨a.toArray⟩ : ByteArray) = -1 := brk_ok (by rw [toArr_list]; exact ha)
  have hs : (⟨a.toArray⟩ : ByteArray).size = a.length := by show a.toArray.size = _; simp
  have h0 : noB ⟨a.toArray⟩ = false := noB_pos (by rw [hs]; exact List.length_pos_iff.2 hne)
  rw [if_pos rfl, hb, h0]
  rfl
theorem Mid.fin (hm : Mid T k h d p0 n0 l p n) (hb : byt T p < 128) : Fin' T k h d p0 n0 l p n := by
  obtain ⟨done, a, h1, h2, h3, h4, h5, h6, h7, h8, h9, h10⟩ := hm
  obtain ⟨o1, o2⟩ := ok_left h4 fun b hb' => by have := byt_head hb'; omega
  by_cases ha : a = []
  · subst ha
    simp only [tailA, if_true, List.append_nil] at h1
    subst h1
    simp at h5
    exact ⟨h2, o2, h5, h6, h7, h8, h9, h10⟩
  · have e : tailA a = [textP ⟨a.toArray⟩] := by unfold tailA; rw [if_neg ha]
    rw [e] at h1
    subst h1
    have hcs : (textP ⟨a.toArray⟩).cs = [] := rfl
    refine ⟨rightL_snoc h2 (text_right o1 ha) (fun hc => h3 hc.2) (by rw [hcs]; rfl) rfl, o2, ?_, ?_, ?_, h8, h9, h10⟩
    · rw [writeL_snoc, List.length_append]
      have : (partW (writeF k) h (textP ⟨a.toArray⟩)).length ≤ 2 * a.length + 2 := by
        show (if (1 : Int) = 1 then dressL h (⟨a.toArray⟩ : ByteArray).data.toList else _).length ≤ _
        rw [if_pos rfl, toArr_list]
        exact dressL_two h a
      have hl : 1 ≤ a.length := by
        rcases Nat.eq_zero_or_pos a.length with e | e
        · exact absurd (List.eq_nil_of_length_eq_zero e) ha
        · exact e
      omega
    · intro x hx c hc
      rcases List.mem_append.1 hx with hx | hx
      · exact h6 x hx c hc
      · simp at hx; subst hx; rw [hcs] at hc; cases hc
    · rw [sumL_snoc, hcs]
      simp only [sumC]
      omega
theorem Mid.start (hp : p ≤ T.size) (hn : n ≤ 1024) (ho : Ok (T.data.toList.drop p)) : Mid T k h d p n [] p n := ⟨[], [], rfl, rfl, by decide, by simpa using ho, by simp [writeL], (fun x hx => absurd hx List.not_mem_nil), by simp [sumL], hn, Nat.le_refl _, hp⟩
/-- A part more that is no text. -/
theorem Fin'.add {x : PT} {q n' : Nat} (hf : Fin' T k h d p0 n0 l p n) (h1 : plainB x h = true) (h2 : x.k ≠ 1) (h3 : caseR (fun m => rightF k m (decide (x.k ≠ 4))) x.k [] x.cs = true) (h4 : otherB x = true) (h5 : n' = n + 1 + sumC (sizeF k) x.cs) (h6 : n' ≤ 1024) (h7 : ∀ c ∈ x.cs, depthF k c.2 + 1 + d ≤ 8) (h8 : (partW (writeF k) h x).length ≤ 4 * (q - p)) (hpq : p ≤ q) (hq : q ≤ T.size) (ho : Ok (T.data.toList.drop q)) : Mid T k h d p0 n0 (l ++ [x]) q n' := by
  obtain ⟨f1, f2, f3, f4, f5, f6, f7, f8⟩ := hf
  refine ⟨l ++ [x], [], by simp [tailA], rightL_snoc f1 h1 (fun hc => h2 hc.1) h3 h4, by rw [lastK_snoc]; exact h2, by simpa using ho, ?_, ?_, ?_, h6, by omega, hq⟩
  · rw [writeL_snoc, List.length_append, List.length_nil]; omega
  · intro y hy c hc
    rcases List.mem_append.1 hy with hy | hy
    · exact f4 y hy c hc
    · simp at hy; subst hy; exact h7 c hc
  · rw [sumL_snoc, List.length_append, List.length_singleton]; omega
theorem lastK_get {l : List PT} {x : PT} (hx : l.getLast? = some x) : lastK 0 l = x.k := by
  rcases snoc_or l with rfl | ⟨l0, a, rfl⟩
  · cases hx
  · rw [List.getLast?_append] at hx
    simp at hx; subst hx
    exact lastK_snoc a l0 0
theorem Mid.put {t : ByteArray} {o q n2 o2 : Nat} {l2 : List PT} (hm : Mid T k h d p0 n0 l p n) (hp : putS l t o n = .ok l2 o2 n2) (ht : 0 < t.size) (htq : t.size ≤ q - p) (hq : q ≤ T.size) (ho : ∀ a, Ok (a ++ T.data.toList.drop p) → Ok (a ++ t.data.toList ++ T.data.toList.drop q)) : Mid T k h d p0 n0 l2 q n2 := by
  obtain ⟨done, a, h1, h2, h3, h4, h5, h6, h7, h8, h9, h10⟩ := hm
  have hne : t.data.toList ≠ [] := fun e => by have := congrArg List.length e; rw [size_len, List.length_nil] at this; omega
  have new : a = [] → (if n = 1024 then RM.bad 3 o else .ok (l ++ [textP t]) o (n + 1)) = .ok l2 o2 n2 → Mid T k h d p0 n0 l2 q n2 := fun ha hp => by
    split at hp
    · cases hp
    · injection hp with e1 e2 e3
      subst ha
      simp only [tailA, if_true, List.append_nil] at h1
      subst h1
      refine ⟨l, t.data.toList, ?_, h2, h3, by simpa using ho [] h4, ?_, h6, ?_, by omega, by omega, hq⟩
      · rw [tailA, if_neg hne, toArr_back, e1]
      · rw [size_len]; simp at h5; omega
      · rw [← e1, List.length_append, List.length_singleton]; omega
  by_cases ha : a = []
  · refine new ha ?_
    subst ha
    simp only [tailA, if_true, List.append_nil] at h1
    subst h1
    unfold putS at hp
    split at hp
    · rename_i x hx
      rw [if_neg (by rw [← lastK_get hx]; exact h3)] at hp
      exact hp
    · exact hp
  · have e : tailA a = [textP ⟨a.toArray⟩] := by unfold tailA; rw [if_neg ha]
    rw [e] at h1
    subst h1
    unfold putS at hp
    simp only [List.getLast?_append, List.getLast?_singleton, Option.some_or, List.dropLast_concat] at hp
    rw [if_pos (show (textP (⟨a.toArray⟩ : ByteArray)).k = 1 from rfl)] at hp
    injection hp with e1 e2 e3
    have hat : a ++ t.data.toList ≠ [] := fun e => ha (List.append_eq_nil_iff.1 e).1
    refine ⟨done, a ++ t.data.toList, ?_, h2, h3, ho a h4, ?_, h6, ?_, by omega, by omega, hq⟩
    · rw [tailA, if_neg hat, ← e1]
      congr 1
    · rw [List.length_append, size_len]; omega
    · rw [← e1]; simp only [List.length_append, List.length_singleton] at h7 ⊢; omega
/-- What a quoted text gives. -/
theorem quotF_ok (o : Nat) : ∀ (f p : Nat) (acc t : List UInt8) (q : Nat), quotF T o f p acc = .ok t q → ∀ a, Ok (a ++ acc ++ T.data.toList.drop p) → Ok (a ++ t ++ T.data.toList.drop q)
  | 0, _, _, _, _, h, _, _ => by cases h
  | f + 1, p, acc, t, q, h, a, ho => by
    unfold quotF at h
    split at h
    · rename_i hlt
      have hl : p < T.data.toList.length := by rw [size_len]; exact hlt
      have hd := List.drop_eq_getElem_cons hl
      have hg : T.data.toList[p] = T[p] := rfl
      split at h
      · rename_i h39
        have hx : T.data.toList[p] = 39 := by
          rw [byt_in hlt] at h39
          rw [hg]
          exact UInt8.toNat_inj.1 (by have : (39 : UInt8).toNat = 39 := rfl; omega)
        rw [hd, hx] at ho
        obtain ⟨o1, o2⟩ := ok_left ho (by intro b hb; simp at hb; subst hb; decide)
        have o3 := ok_tail o2 (by decide)
        split at h
        · rename_i h2
          have hlt2 : p + 1 < T.size := byt_lt (by omega)
          refine quotF_ok o f (p + 2) (acc ++ [39]) t q h a ?_
          have o4 : Ok (T.data.toList.drop (p + 2)) := ok_to o3 (by omega) (by omega) fun i h1 h2' => by
            have : i = p + 1 := by omega
            rw [this, h2]; decide
          rw [← List.append_assoc, List.append_assoc (a ++ acc)]
          exact app_ok o1 (cons_ok o4 39 (by decide))
        · injection h with e1 e2
          subst e1; subst e2
          exact app_ok o1 o3
      · refine quotF_ok o f (p + 1) (acc ++ [T[p]]) t q h a ?_
        rw [hd, hg] at ho
        rw [← List.append_assoc, List.append_assoc (a ++ acc)]
        exact ho
    · cases h
theorem quotS_one {p q : Nat} {t : List UInt8} (h : quotS T p = .ok t q) (h2 : byt T (p + 1) ≠ 39) : 0 < t.length := by
  unfold quotS at h
  cases hf : T.size + 1 - (p + 1) with
  | zero => rw [hf] at h; cases h
  | succ f =>
    rw [hf] at h
    unfold quotF at h
    split at h
    · have := (quotF_ge T p _ _ _ _ _ h).2.2.1
      simp at this
      omega
    · cases h
theorem mostC_top {D : List PT → Nat} {b : Nat} : ∀ (cs : List CT) (m : Nat), m ≤ b → (∀ c ∈ cs, 1 + D c.2 ≤ b) → mostC D m cs ≤ b
  | [], _, h, _ => h
  | c :: cs, m, h, hc => mostC_top cs _ (by have := hc c (List.mem_cons_self ..); omega) fun x hx => hc x (List.mem_cons_of_mem _ hx)
theorem mostL_top {D : List PT → Nat} {b : Nat} : ∀ (l : List PT) (m : Nat), m ≤ b → (∀ x ∈ l, ∀ c ∈ x.cs, 1 + D c.2 ≤ b) → mostL D m l ≤ b
  | [], _, h, _ => h
  | p :: l, m, h, hc => by
    refine mostL_top l _ (mostC_top _ _ h fun c hx => ?_) fun x hx => hc x (List.mem_cons_of_mem _ hx)
    refine hc p (List.mem_cons_self ..) c ?_
    unfold casesP at hx
    split at hx
    · cases hx
    · exact hx
/-- Parts that were read may be. -/
theorem msg_right : ∀ (f k d : Nat) (h : Bool) (p0 n0 : Nat) (l : List PT) (p n : Nat) (r : List PT) (q n' : Nat), f ≤ k → d ≤ 8 → Mid T k h d p0 n0 l p n → msgF T f d h l p n = .ok r q n' → Fin' T k h d p0 n0 r q n' ∧ (q = T.size ∨ byt T q = 125)
  | 0, _, _, _, _, _, _, _, _, _, _, _, _, _, _, hr => by cases hr
  | f + 1, k, d, h, p0, n0, l, p, n, r, q, n', hk, hd, hm, hr => by
    have hpT : p ≤ T.size := hm.choose_spec.choose_spec.2.2.2.2.2.2.2.2.2
    have hnT : n ≤ 1024 := hm.choose_spec.choose_spec.2.2.2.2.2.2.2.1
    have IH := fun l p n r q n' => msg_right f k d h p0 n0 l p n r q n' (by omega) hd
    by_cases c0 : p = T.size ∨ byt T p = 125
    · rw [msgF_end c0] at hr
      injection hr with e1 e2 e3
      subst e1; subst e2; subst e3
      refine ⟨hm.fin ?_, c0⟩
      rcases c0 with c0 | c0
      · rw [byt_out (by omega)]; decide
      · omega
    have hlt : p < T.size := by omega
    have h125 : byt T p ≠ 125 := fun e => c0 (.inr e)
    by_cases c1 : byt T p = 123
    · rw [msgF_arg c1] at hr
      have hfin := hm.fin (by omega)
      split at hr
      · cases hr
      rename_i hn
      obtain ⟨x, p1, n1, e1, hr⟩ := rm_then hr
      obtain ⟨k', rfl⟩ : ∃ k', k = k' + 1 := ⟨k - 1, by omega⟩
      have hM : d ≠ 8 → ∀ h', GoodM T ((fun h' => msgF T f (d + 1) h' []) h') (fun m => rightF (k' + 1) m h') (fun m => writeF (k' + 1) m h') (sizeF (k' + 1)) (fun m => depthF (k' + 1) m + (d + 1) ≤ 8) := fun hd8 h' pp nn ll qq nn' hh hp1 hn1 ho1 => by
        obtain ⟨⟨g1, g2, g3, g4, g5, g6, g7, g8⟩, g9⟩ := msg_right f k' (d + 1) h' pp nn [] pp nn ll qq nn' (by omega) (by omega) (Mid.start hp1 hn1 ho1) hh
        refine ⟨g1, by rw [g5, Nat.add_assoc]; rfl, g6, ?_, g3, g7, g8, g9, g2⟩
        have := mostL_top (D := depthF k') (b := 7 - d) ll 0 (by omega) fun x hx c hc => by have := g4 x hx c hc; omega
        show mostL (depthF k') 0 ll + (d + 1) ≤ 8
        omega
      obtain ⟨a1, a2, a3, a4, a5, a6, a7, a8, a9, a10, a11⟩ := argS_ok (R := rightF (k' + 1)) (Wr := writeF (k' + 1)) f hM e1 hlt c1 (by omega) hfin.2.1 h
      refine IH _ _ _ r q n' (hfin.add a1 a2 a3 a4 a5 a6 (fun c hc => ?_) a8 (by omega) a10 a11) hr
      obtain ⟨b1, b2⟩ := a7 c hc
      omega
    by_cases c2 : byt T p = 35 ∧ h = true
    · obtain ⟨c2, hh⟩ := c2
      rw [msgF_hash c2 hh] at hr
      have hfin := hm.fin (by omega)
      split at hr
      · cases hr
      rename_i hn
      have hO := ok_to hfin.2.1 (show p ≤ p + 1 by omega) (by omega) fun i h1 h2 => by
        have : i = p := by omega
        rw [this, c2]; decide
      refine IH _ _ _ r q n' (hfin.add (x := hashP) ?_ (by show (2 : Int) ≠ 1; decide) rfl rfl (by show n + 1 = n + 1 + 0; rfl) (by omega) (fun c hc => absurd hc List.not_mem_nil) ?_ (by omega) (by omega) hO) hr
      · rw [hh]; rfl
      · show ([35] : List UInt8).length ≤ _
        simp
    by_cases c3 : byt T p = 39 ∧ byt T (p + 1) = 39
    · rw [msgF_two c3.1 c3.2] at hr
      obtain ⟨l2, o2, n2, e1, hr⟩ := rm_then hr
      have hlt2 : p + 1 < T.size := byt_lt (by omega)
      refine IH _ _ _ r q n' (hm.put (q := p + 2) e1 (by decide) (by show 1 ≤ _; omega) (by omega) fun a ho => ?_) hr
      obtain ⟨o1, o2⟩ := ok_left ho fun b hb' => by have := byt_head hb'; omega
      rw [List.append_assoc]
      refine app_ok o1 (cons_ok ?_ 39 (by decide))
      exact ok_to o2 (by omega) (by omega) fun i h1 h2 => by
        have : i = p ∨ i = p + 1 := by omega
        rcases this with e | e <;> rw [e] <;> omega
    by_cases c4 : byt T p = 39 ∧ quotB T h p = true
    · have c39 : byt T (p + 1) ≠ 39 := fun e => c3 ⟨c4.1, e⟩
      rw [msgF_quot c4.1 c39 c4.2] at hr
      obtain ⟨t, p1, e0, hr⟩ := rr_then hr
      obtain ⟨l2, o2, n2, e1, hr⟩ := rm_then hr
      obtain ⟨g1, g2, g3⟩ := quotS_ge e0
      have g4 := quotS_one e0 c39
      have hts : (⟨t.toArray⟩ : ByteArray).size = t.length := by show t.toArray.size = _; simp
      refine IH _ _ _ r q n' (hm.put (q := p1) e1 (by omega) (by omega) (by omega) fun a ho => ?_) hr
      obtain ⟨o1, o2⟩ := ok_left ho fun b hb' => by have := byt_head hb'; omega
      have o3 := ok_to o2 (show p ≤ p + 1 by omega) (by omega) fun i h1 h2 => by
        have : i = p := by omega
        rw [this]; omega
      rw [toArr_list]
      unfold quotS at e0
      exact quotF_ok p _ _ _ _ _ e0 a (by rw [List.append_nil]; exact app_ok o1 o3)
    · rw [msgF_byte hlt h125 c1 c2 c3 c4] at hr
      obtain ⟨l2, o2, n2, e1, hr⟩ := rm_then hr
      have hts : (T.extract p (p + 1)).size = 1 := by rw [ByteArray.size_extract]; omega
      refine IH _ _ _ r q n' (hm.put (q := p + 1) e1 (by omega) (by omega) (by omega) fun a ho => ?_) hr
      have hl : p < T.data.toList.length := by rw [size_len]; exact hlt
      have : (T.extract p (p + 1)).data.toList = [T.data.toList[p]] := by
        rw [ByteArray.data_extract, Array.toList_extract, List.extract_eq_drop_take', List.take_add_one, List.drop_append_of_le_length (by rw [List.length_take]; omega), List.drop_of_length_le (by rw [List.length_take]; omega), List.getElem?_eq_getElem hl]
        rfl
      rw [this, List.append_assoc, List.singleton_append, ← List.drop_eq_getElem_cons hl]
      exact ho
/-- A text that was read as parts: they may be; their form is at most four times the text. -/
theorem parse_right {k q n : Nat} {l : List PT} (hb : brk T < 0) (hk : T.size + 1 ≤ k) (hr : msgF T (T.size + 1) 0 false [] 0 0 = .ok l q n) : rightF (k + 1) l false = true ∧ sizeF (k + 1) l ≤ 1024 ∧ depthF (k + 1) l ≤ 8 ∧ (writeF (k + 1) l false).length ≤ 4 * T.size ∧ n = sizeF (k + 1) l := by
  obtain ⟨⟨g1, g2, g3, g4, g5, g6, g7, g8⟩, g9⟩ := msg_right (T.size + 1) k 0 false 0 0 [] 0 0 l q n hk (by omega) (Mid.start (Nat.zero_le _) (by omega) (by rw [List.drop_zero]; exact okP hb)) hr
  have h5 : n = sizeF (k + 1) l := by rw [g5, Nat.zero_add]; rfl
  refine ⟨g1, by omega, mostL_top l 0 (by omega) fun x hx c hc => by have := g4 x hx c hc; omega, ?_, h5⟩
  have : (writeF (k + 1) l false).length ≤ 4 * (q - 0) := g3
  omega
end
end Go.Proofs.YtjldgcpmdcoejaaGreatDoor
