/- Plain facts on UTF-8: the reference's form of a rune, told by the model's own decoder. No program. -/
import Derived.Lib.DecodeN
import Derived.Lib.DecodeNEq
import Derived.Lib.Bits
import Derived.Laws.BitsAllLaws
import Derived.Laws.BitsLemmas
namespace Go.Proofs.YtmfoiceofhcicaaGreatDoor
open Go.Lib

/-- What vernacularref02.Form tells, by the bytes. -/
def formN (n b0 b1 b2 b3 : Nat) : Int × Nat :=
  if b0 < 128 then (b0, 1) else if b0 < 194 then (-1, 1)
  else if b0 ≤ 223 then (if n < 2 then (-1, 1) else if b1 / 64 ≠ 2 then (-1, 1) else ((b0 % 32 * 64 + b1 % 64 : Nat), 2))
  else if b0 ≤ 239 then (if n < 3 then (-1, 1) else if b1 / 64 ≠ 2 then (-1, 1) else if b2 / 64 ≠ 2 then (-1, 1) else
    if b0 % 16 * 4096 + b1 % 64 * 64 + b2 % 64 < 2048 ∨ (55296 ≤ b0 % 16 * 4096 + b1 % 64 * 64 + b2 % 64 ∧ b0 % 16 * 4096 + b1 % 64 * 64 + b2 % 64 ≤ 57343) then (-1, 1) else ((b0 % 16 * 4096 + b1 % 64 * 64 + b2 % 64 : Nat), 3))
  else if b0 ≤ 244 then (if n < 4 then (-1, 1) else if b1 / 64 ≠ 2 then (-1, 1) else if b2 / 64 ≠ 2 then (-1, 1) else if b3 / 64 ≠ 2 then (-1, 1) else
    if b0 % 8 * 262144 + b1 % 64 * 4096 + b2 % 64 * 64 + b3 % 64 < 65536 ∨ 1114111 < b0 % 8 * 262144 + b1 % 64 * 4096 + b2 % 64 * 64 + b3 % 64 then (-1, 1) else ((b0 % 8 * 262144 + b1 % 64 * 4096 + b2 % 64 * 64 + b3 % 64 : Nat), 4))
  else (-1, 1)

/-- .. by the model's decoder: -1 and 1 where the bytes are broken. -/
def formD (s : ByteArray) (k : Nat) : Int × Nat := if 128 ≤ (s.get! k).toNat ∧ (Utf8.decode s k).2 = 1 then (-1, 1) else ((Utf8.decode s k).1, (Utf8.decode s k).2)

set_option maxRecDepth 100000 in
set_option maxHeartbeats 4000000 in
theorem formD_N (s : ByteArray) (k : Nat) : formD s k = formN (s.size - k) (s.get! k).toNat (s.get! (k + 1)).toNat (s.get! (k + 2)).toNat (s.get! (k + 3)).toNat := by
  unfold formD
  rw [decode_at]
  generalize (s.get! k).toNat = b0, (s.get! (k + 1)).toNat = b1, (s.get! (k + 2)).toNat = b2, (s.get! (k + 3)).toNat = b3, s.size - k = n
  unfold decodeN formN
  by_cases a0 : b0 < 128
  · rw [if_pos a0, if_pos a0, if_neg (by omega)]
  rw [if_neg a0, if_neg a0]
  by_cases a1 : b0 < 194
  · rw [if_pos a1]
    repeat' split
    all_goals first | rfl | (exfalso; omega) | (exfalso; simp_all; done)
  rw [if_neg a1]
  by_cases a2 : b0 ≤ 223
  · rw [if_pos a2]
    repeat' split
    all_goals first | rfl | (exfalso; omega) | (exfalso; simp_all; done)
  rw [if_neg a2]
  by_cases a3 : b0 ≤ 239
  · rw [if_pos a3, if_neg (by omega : ¬ (b0 / 32 = 6 ∧ (1 < n ∧ b1 / 64 = 2)))]
    repeat' split
    all_goals first | rfl | (exfalso; omega) | (exfalso; simp_all; done)
  rw [if_neg a3, if_neg (by omega : ¬ (b0 / 32 = 6 ∧ (1 < n ∧ b1 / 64 = 2))), if_neg (by omega : ¬ (b0 / 16 = 14 ∧ (1 < n ∧ b1 / 64 = 2) ∧ (2 < n ∧ b2 / 64 = 2)))]
  repeat' split
  all_goals first | rfl | (exfalso; omega) | (exfalso; simp_all; done)
theorem get!_eq (s : ByteArray) (i : Nat) (h : i < s.size) : s.get! i = s[i] := by
  show s.data[i]! = s.data[i]
  exact getElem!_pos s.data i h

section
variable {s : ByteArray} {k : Nat}
end

theorem formD_wide (s : ByteArray) (k : Nat) (h : k < s.size) : 1 ≤ (formD s k).2 ∧ k + (formD s k).2 ≤ s.size := by
  rw [formD_N]
  generalize (s.get! k).toNat = b0, (s.get! (k + 1)).toNat = b1, (s.get! (k + 2)).toNat = b2, (s.get! (k + 3)).toNat = b3 at *
  unfold formN
  repeat' split
  all_goals simp only
  all_goals omega
/-- Broken: the model's decoder says U+FFFD, and one byte. -/
theorem formD_neg (s : ByteArray) (k : Nat) : (formD s k).1 < 0 ↔ (Utf8.decode s k).1 = 65533 ∧ (Utf8.decode s k).2 = 1 := by
  unfold formD
  rw [decode_at]
  have h0 := UInt8.toNat_lt (s.get! k)
  generalize (s.get! k).toNat = b0, (s.get! (k + 1)).toNat = b1, (s.get! (k + 2)).toNat = b2, (s.get! (k + 3)).toNat = b3, s.size - k = n at *
  unfold decodeN
  repeat' split
  all_goals simp_all
  all_goals omega
theorem formD_same (s : ByteArray) (k : Nat) (h : ¬ (formD s k).1 < 0) : formD s k = (((Utf8.decode s k).1 : Int), (Utf8.decode s k).2) := by
  unfold formD at *
  split
  · rename_i hc
    rw [if_pos hc] at h
    exact absurd (by decide) h
  · rfl

/-- The first broken byte from a place on; -1: none is. -/
def brkF (s : ByteArray) : Nat → Nat → Int
  | 0, _ => -1
  | f + 1, i => if i < s.size then (if (formD s i).1 < 0 then (i : Int) else brkF s f (i + (formD s i).2)) else -1
theorem brkF_fuel (s : ByteArray) : ∀ f g i, s.size ≤ i + f → s.size ≤ i + g → brkF s f i = brkF s g i
  | 0, 0, _, _, _ => rfl
  | 0, g + 1, i, h, _ => by simp only [brkF]; rw [if_neg (by omega)]
  | f + 1, 0, i, _, h => by simp only [brkF]; rw [if_neg (by omega)]
  | f + 1, g + 1, i, h, h' => by
    simp only [brkF]
    split
    · rename_i hi
      have := (formD_wide s i hi).1
      split
      · rfl
      · exact brkF_fuel s f g _ (by omega) (by omega)
    · rfl
def brkAt (s : ByteArray) (i : Nat) : Int := brkF s (s.size - i) i
def brk (s : ByteArray) : Int := brkAt s 0
theorem brkAt_end (s : ByteArray) (i : Nat) (h : s.size ≤ i) : brkAt s i = -1 := by
  unfold brkAt
  rw [show s.size - i = 0 from by omega]
  rfl
theorem brkAt_bad (s : ByteArray) (i : Nat) (h : i < s.size) (hb : (formD s i).1 < 0) : brkAt s i = i := by
  unfold brkAt
  obtain ⟨f, hf⟩ : ∃ f, s.size - i = f + 1 := ⟨s.size - i - 1, by omega⟩
  rw [hf]
  simp only [brkF]
  rw [if_pos h, if_pos hb]
theorem brkAt_next (s : ByteArray) (i : Nat) (h : i < s.size) (hb : ¬ (formD s i).1 < 0) : brkAt s i = brkAt s (i + (formD s i).2) := by
  have hw := formD_wide s i h
  unfold brkAt
  obtain ⟨f, hf⟩ : ∃ f, s.size - i = f + 1 := ⟨s.size - i - 1, by omega⟩
  rw [hf]
  simp only [brkF]
  rw [if_pos h, if_neg hb]
  exact brkF_fuel s _ _ _ (by omega) (by omega)
end Go.Proofs.YtmfoiceofhcicaaGreatDoor
