/- Plain: what Print writes. No program. -/
import Derived.Test.YtkkglaglnfebjaaDoorRA
import Derived.Lib.Repeat
namespace Go.Proofs.YtkkglaglnfebjaaDoor
open Go.RowKit

/-- Where commas stand: how many digits stand behind each. -/
def comma1 (g : Int) : List Int := if 0 < g then [g] else []
def commasL (g g2 : Int) : List Int := comma1 g ++ (if g2 ≠ g then [g + g2] else [])
theorem comma1_len (g : Int) : (comma1 g).length ≤ 1 := by unfold comma1; split <;> simp
theorem commasL_len (g g2 : Int) : (commasL g g2).length ≤ 2 := by
  have := comma1_len g
  unfold commasL; split <;> simp <;> omega
/-- The three forms of a pattern's commas. -/
theorem commas_ways (g g2 : Int) (h : g = 0 ∧ g2 = 0 ∨ 1 ≤ g ∧ g ≤ 63 ∧ 1 ≤ g2 ∧ g2 ≤ 63 ∧ (g = g2 ∨ g + g2 < 64)) :
    commasL g g2 = [] ∨ (commasL g g2 = [g] ∧ 1 ≤ g ∧ g ≤ 63) ∨ (commasL g g2 = [g, g + g2] ∧ 1 ≤ g + g2 ∧ g + g2 ≤ 63) := by
  rcases h with ⟨rfl, rfl⟩ | ⟨h1, h2, h3, h4, rfl | h5⟩
  · exact .inl rfl
  · exact .inr (.inl ⟨by simp [commasL, comma1]; omega, h1, h2⟩)
  · by_cases he : g2 = g
    · subst he; exact .inr (.inl ⟨by simp [commasL, comma1]; omega, h1, h2⟩)
    · exact .inr (.inr ⟨by simp only [commasL, comma1]; rw [if_pos (by omega), if_pos he]; rfl, by omega, by omega⟩)
/-- How many digits are written ahead of the point. -/
def digitsM (mi : Int) (cs : List Int) : Int := match cs.getLast? with | none => mi | some c => max mi (c + 1)
def digitsN (p : PatD) : Int := digitsM p.mi (commasL p.g p.g2)
/-- The digits ahead of the point, n and fewer. -/
def digitsF (cs : List Int) (mi : Int) : Nat → List UInt8
  | 0 => []
  | n + 1 => (if cs.contains ((n : Int) + 1) then [44] else []) ++ (if mi < (n : Int) + 1 then [35] else [48]) ++ digitsF cs mi n
def fracL (mf xf : Int) : List UInt8 := if 0 < xf then [46] ++ List.replicate mf.toNat 48 ++ List.replicate (xf - mf).toNat 35 else []
def shapeL (p : PatD) : List UInt8 := digitsF (commasL p.g p.g2) p.mi (digitsN p).toNat ++ fracL p.mf p.xf
/-- Print, its pieces' texts being known. -/
def printL (p : PatD) (b1 b2 b3 b4 : List UInt8) : List UInt8 := b1 ++ shapeL p ++ b2 ++ (if p.neg then [59] ++ b3 ++ [48] ++ b4 else [])
def printR (p : PatD) (b1 b2 b3 b4 : List UInt8) : List UInt8 × Int :=
  if rightB p = false then ([], 2) else if 4096 < (printL p b1 b2 b3 b4).length then ([], 3) else (printL p b1 b2 b3 b4, 0)
theorem digitsF_len (cs : List Int) (mi : Int) : ∀ n, (digitsF cs mi n).length ≤ 2 * n
  | 0 => Nat.le_refl _
  | n + 1 => by
    have := digitsF_len cs mi n
    simp only [digitsF, List.length_append]
    split <;> split <;> simp <;> omega
/-- What is known of the numbers of a pattern that may be. -/
theorem right_nums (p : PatD) (h : rightB p = true) : (1 ≤ p.mi ∧ p.mi ≤ 64 ∧ 0 ≤ p.xf ∧ p.xf ≤ 64 ∧ 0 ≤ p.mf ∧ p.mf ≤ p.xf) ∧
    (p.g = 0 ∧ p.g2 = 0 ∨ 1 ≤ p.g ∧ p.g ≤ 63 ∧ 1 ≤ p.g2 ∧ p.g2 ≤ 63 ∧ (p.g = p.g2 ∨ p.g + p.g2 < 64)) := by
  simp only [rightB, numsB, groupsB, Bool.and_eq_true, decide_eq_true_eq] at h
  exact h.1.1
end Go.Proofs.YtkkglaglnfebjaaDoor
