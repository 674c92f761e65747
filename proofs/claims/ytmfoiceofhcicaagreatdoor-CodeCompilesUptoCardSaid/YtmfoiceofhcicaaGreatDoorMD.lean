/- What the reader's message, choice and argument leave behind, as statements. No walk. -/
import Derived.Test.YtmfoiceofhcicaaGreatDoorMZ
import Derived.Test.YtmfoiceofhcicaaGreatDoorMC
import Derived.Test.YtmfoiceofhcicaaGreatDoorMK
import Derived.Test.YtmfoiceofhcicaaGreatDoorMS
import Derived.Test.YtmfoiceofhcicaaGreatDoorTR
namespace Go.Proofs.YtmfoiceofhcicaaGreatDoor
open Go.RowKit

theorem Lies.form {n : Nat} {S : Nat → Prop} {w : World} {v : Value} {l : List PT} (h : Lies n S w v l) : ∃ A m c, v = .slice A m c := by
  cases n with
  | zero => exact h.elim
  | succ n =>
    obtain ⟨_, _, ⟨A, c, rfl, _⟩, _⟩ := h
    exact ⟨_, _, _, rfl⟩
theorem numS_ge {s : ByteArray} {p q : Nat} {v : Int} (h : numS s p = .ok v q) (hp : p ≤ s.size) : p ≤ q ∧ q ≤ s.size := by
  unfold numS at h
  split at h
  · injection h with _ h; subst h; exact ⟨digE_ge _ _, digE_le _ _ hp⟩
  · cases h
theorem nameS_ge {s t : ByteArray} {p q : Nat} (h : nameS s p = .ok t q) : p < q ∧ q ≤ s.size := by
  unfold nameS at h
  split at h
  · rename_i hst
    split at h
    · cases h
    · injection h with _ h
      subst h
      have h1 := skip_ge s p
      have h2 := nameE_ge s (skip s p + 1)
      have h3 : skip s p < s.size := by
        rcases Nat.lt_or_ge (skip s p) s.size with h | h
        · exact h
        · rw [byt_out h] at hst; exact absurd hst (by decide)
      exact ⟨by omega, nameE_le _ _ (by omega)⟩
  · cases h
theorem keyS_ge {s t : ByteArray} {k : Int} {p q : Nat} (h : keyS s k p = .ok t q) : p < q ∧ q ≤ s.size := by
  unfold keyS at h
  split at h
  · rename_i hc
    have hlt : p < s.size := byt_lt (by omega)
    cases hn : numS s (p + 1) with
    | out => rw [hn] at h; cases h
    | bad e q => rw [hn] at h; cases h
    | ok v r =>
      rw [hn] at h
      injection h with _ h
      subst h
      have := numS_ge hn (by omega)
      omega
  · cases hn : nameS s p with
    | out => rw [hn] at h; cases h
    | bad e q => rw [hn] at h; cases h
    | ok v r =>
      rw [hn] at h
      simp only [RR.then] at h
      split at h
      · cases h
      · injection h with _ h
        subst h
        exact nameS_ge hn
theorem signS_ge {s : ByteArray} {b : Int} {p q : Nat} {u : Unit} (hb : 0 ≤ b) (h : signS s b p = .ok u q) : p < q ∧ q ≤ s.size := by
  unfold signS at h
  split at h
  · rename_i hc
    injection h with _ h
    subst h
    have h1 := skip_ge s p
    have h3 : skip s p < s.size := byt_lt (by omega)
    omega
  · cases h
end Go.Proofs.YtmfoiceofhcicaaGreatDoor
