/- Plain: the reader of octets as walked is the reader of KB. -/
import Derived.Test.YtmfoiceofhcicaaGreatDoorKS
import Derived.Test.YtmfoiceofhcicaaGreatDoorKB
namespace Go.Proofs.YtmfoiceofhcicaaGreatDoor

theorem numU_le : ∀ l : List UInt8, numU l = leN l
  | [] => rfl
  | b :: r => by simp only [numU, leN, numU_le r]
/-- The plain reader of a place and a fault. -/
def rdOf (k f : Nat) : Rd := ⟨k, f != 0⟩
theorem take_rd {l : List UInt8} {k f n : Nat} (hk : k ≤ l.length) : takeR l n (rdOf k f) = (tkB l k f n, rdOf (tkK l k f n) (tkF l k f n)) := by
  unfold takeR rdOf tkB tkK tkF
  by_cases hf : f = 0
  · subst hf
    by_cases h : k + n ≤ l.length
    · have h1 : ¬ l.length - k < n := by omega
      simp [h, h1]
    · have h1 : l.length - k < n := by omega
      simp [h, h1]
  · simp [hf]
theorem num_rd {l : List UInt8} {k f n : Nat} (hk : k ≤ l.length) : numR l n (rdOf k f) = (numU (tkB l k f n), rdOf (tkK l k f n) (tkF l k f n)) := by
  unfold numR
  rw [take_rd hk, numU_le]
end Go.Proofs.YtmfoiceofhcicaaGreatDoor
