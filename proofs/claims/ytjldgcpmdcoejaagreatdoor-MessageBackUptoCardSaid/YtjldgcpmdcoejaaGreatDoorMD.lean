/- What the reader's message, choice and argument leave behind, as statements. No walk. -/
import Derived.Test.YtjldgcpmdcoejaaGreatDoorMZ
import Derived.Test.YtjldgcpmdcoejaaGreatDoorMC
import Derived.Test.YtjldgcpmdcoejaaGreatDoorMK
import Derived.Test.YtjldgcpmdcoejaaGreatDoorMX
namespace Go.Proofs.YtjldgcpmdcoejaaGreatDoor
open Go.RowKit

/-- What message leaves behind; f: how deep. -/
def MPost (f : Nat) (w : World) (B g : Nat) (s : ByteArray) (p d : Nat) (v : Value) (hs : List Bool) : RM (List PT) → Ending → World → Prop
  | .out, _, _ => True
  | .bad e q, x, w' => x = Stop e q ∧ Below B w w'
  | .ok l q n, x, w' => ∃ (u v' : Value) (S : Nat → Prop), x = .returned u ∧ Lies (f + 1) S w' u l ∧ (∀ b, S b → w.heap.size ≤ b ∧ b < w'.heap.size ∧ b ∉ v'.ownBlock.toList) ∧ Rr w' g s q n d v' ∧ Hs B w' v' hs ∧
      (∀ b ∈ v'.ownBlock.toList, b ∈ v.ownBlock.toList ∨ w.heap.size ≤ b) ∧ Keep (g :: v.ownBlock.toList) w w' ∧ p ≤ q ∧ q ≤ s.size ∧ n ≤ 1024
/-- message is right, where f steps are enough. -/
def MsgC (s : ByteArray) (f : Nat) : Prop := ∀ (w : World) (B g p n d : Nat) (v : Value) (hs : List Bool), EnvM B w → B ≤ g → Rr w g s p n d v → Hs B w v hs → p ≤ s.size → n ≤ 1024 → d ≤ 8 → hs.length = d → msgF s f d (topB hs) [] p n ≠ .out → (∀ e q, msgF s f d (topB hs) [] p n ≠ .bad e q) →
  Calls Tryz.prog 36 #[.pointer (some ⟨g, 0, none⟩)] w (MPost f w B g s p d v hs (msgF s f d (topB hs) [] p n))
/-- What choice leaves behind: the part in block pb has its offset and its cases. -/
def ChPost (f : Nat) (w : World) (B g pb : Nat) (s : ByteArray) (pt : PT) (p d : Nat) (v : Value) (hs : List Bool) : RM (Int × List CT) → Ending → World → Prop
  | .out, _, _ => True
  | .bad e q, x, w' => x = Stop e q ∧ Below B w w'
  | .ok a q n, x, w' => x = .returned (.tuple #[]) ∧ ∃ (cv v' : Value) (S : Nat → Prop), Blk w' pb 47 (({ pt with off := a.1 } : PT).cells cv).toArray ∧ LiesC (f + 1) S w' cv a.2 ∧ (∀ b, S b → w.heap.size ≤ b ∧ b < w'.heap.size ∧ b ∉ v'.ownBlock.toList) ∧ Rr w' g s q n d v' ∧ Hs B w' v' hs ∧
      (∀ b ∈ v'.ownBlock.toList, b ∈ v.ownBlock.toList ∨ w.heap.size ≤ b) ∧ Keep ([g, pb] ++ v.ownBlock.toList) w w' ∧ p ≤ q ∧ q ≤ s.size ∧ n ≤ 1024
/-- What argument leaves behind. -/
def APost (f : Nat) (w : World) (B g : Nat) (s : ByteArray) (p d : Nat) (v : Value) (hs : List Bool) : RM PT → Ending → World → Prop
  | .out, _, _ => True
  | .bad e q, x, w' => x = Stop e q ∧ Below B w w'
  | .ok a q n, x, w' => ∃ (cv v' : Value) (S : Nat → Prop), x = .returned (.agg (a.cells cv).toArray) ∧ LiesC (f + 1) S w' cv a.cs ∧ cv.oneCell' = true ∧ (∀ b, S b → w.heap.size ≤ b ∧ b < w'.heap.size ∧ b ∉ v'.ownBlock.toList) ∧ Rr w' g s q n d v' ∧ Hs B w' v' hs ∧
      (∀ b ∈ v'.ownBlock.toList, b ∈ v.ownBlock.toList ∨ w.heap.size ≤ b) ∧ Keep (g :: v.ownBlock.toList) w w' ∧ p < q ∧ q ≤ s.size ∧ n ≤ 1024 ∧ a.tx.size = 0
theorem Lies.form {n : Nat} {S : Nat → Prop} {w : World} {v : Value} {l : List PT} (h : Lies n S w v l) : ∃ A m c, v = .slice A m c := by
  cases n with
  | zero => exact h.elim
  | succ n =>
    obtain ⟨_, _, ⟨A, c, rfl, _⟩, _⟩ := h
    exact ⟨_, _, _, rfl⟩
theorem numS_ge {s : ByteArray} {p q : Nat} {v : Int} (h : numS s p = .ok v q) (hp : p ≤ s.size) : p ≤ q ∧ q ≤ s.size := by
  unfold numS at h
  split at h
  · injection h with _ h; subst h; exact ⟨digE_ge _ _, digE_le _ _ hp⟩
  · cases h
theorem nameS_ge {s t : ByteArray} {p q : Nat} (h : nameS s p = .ok t q) : p < q ∧ q ≤ s.size := by
  unfold nameS at h
  split at h
  · rename_i hst
    split at h
    · cases h
    · injection h with _ h
      subst h
      have h1 := skip_ge s p
      have h2 := nameE_ge s (skip s p + 1)
      have h3 : skip s p < s.size := by
        rcases Nat.lt_or_ge (skip s p) s.size with h | h
        · exact h
        · rw [byt_out h] at hst; exact absurd hst (by decide)
      exact ⟨by omega, nameE_le _ _ (by omega)⟩
  · cases h
theorem keyS_ge {s t : ByteArray} {k : Int} {p q : Nat} (h : keyS s k p = .ok t q) : p < q ∧ q ≤ s.size := by
  unfold keyS at h
  split at h
  · rename_i hc
    have hlt : p < s.size := byt_lt (by omega)
    cases hn : numS s (p + 1) with
    | out => rw [hn] at h; cases h
    | bad e q => rw [hn] at h; cases h
    | ok v r =>
      rw [hn] at h
      injection h with _ h
      subst h
      have := numS_ge hn (by omega)
      omega
  · cases hn : nameS s p with
    | out => rw [hn] at h; cases h
    | bad e q => rw [hn] at h; cases h
    | ok v r =>
      rw [hn] at h
      simp only [RR.then] at h
      split at h
      · cases h
      · injection h with _ h
        subst h
        exact nameS_ge hn
theorem signS_ge {s : ByteArray} {b : Int} {p q : Nat} {u : Unit} (hb : 0 ≤ b) (h : signS s b p = .ok u q) : p < q ∧ q ≤ s.size := by
  unfold signS at h
  split at h
  · rename_i hc
    injection h with _ h
    subst h
    have h1 := skip_ge s p
    have h3 : skip s p < s.size := byt_lt (by omega)
    omega
  · cases h
end Go.Proofs.YtjldgcpmdcoejaaGreatDoor
