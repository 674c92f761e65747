/- Plain: numbers in digits, read and written. No walk. -/
import Derived.Test.YtjldgcpmdcoejaaGreatDoorMR
namespace Go.Proofs.YtjldgcpmdcoejaaGreatDoor
open Go.RowKit

def digB (b : UInt8) : Bool := decide (48 ≤ b.toNat) && decide (b.toNat ≤ 57)
theorem digB_iff {b : UInt8} : digB b = true ↔ 48 ≤ b.toNat ∧ b.toNat ≤ 57 := by unfold digB; simp
def valD (acc : Nat) (l : List UInt8) : Nat := l.foldl (fun a c => a * 10 + (c.toNat - 48)) acc
theorem valD_nil (acc : Nat) : valD acc [] = acc := List.foldl_nil
theorem valD_cons (acc : Nat) (c : UInt8) (l : List UInt8) : valD acc (c :: l) = valD (acc * 10 + (c.toNat - 48)) l := List.foldl_cons ..
theorem valD_snoc (b : UInt8) : ∀ (l : List UInt8) (acc : Nat), valD acc (l ++ [b]) = valD acc l * 10 + (b.toNat - 48)
  | [], _ => by rw [List.nil_append, valD_cons, valD_nil, valD_nil]
  | c :: l, acc => by rw [List.cons_append, valD_cons, valD_snoc b l, valD_cons]
theorem valD_ge : ∀ (l : List UInt8) (acc : Nat), acc ≤ valD acc l
  | [], _ => by rw [valD_nil]; exact Nat.le_refl _
  | c :: l, acc => by have := valD_ge l (acc * 10 + (c.toNat - 48)); rw [valD_cons]; omega
theorem valD_lt : ∀ (l : List UInt8) (acc : Nat), l.all digB = true → valD acc l + 1 ≤ (acc + 1) * 10 ^ l.length
  | [], acc, _ => by rw [valD_nil]; simp
  | c :: l, acc, h => by
    rw [List.all_cons, Bool.and_eq_true] at h
    have h1 := digB_iff.1 h.1
    have := valD_lt l (acc * 10 + (c.toNat - 48)) h.2
    have h2 : (acc * 10 + (c.toNat - 48) + 1) * 10 ^ l.length ≤ ((acc + 1) * 10) * 10 ^ l.length := Nat.mul_le_mul_right _ (by omega)
    rw [valD_cons, List.length_cons, Nat.pow_succ, Nat.mul_comm (10 ^ l.length) 10, ← Nat.mul_assoc]
    omega
theorem parse_val : ∀ (l : List UInt8) (acc : Nat), l.all digB = true → (acc + 1) * 10 ^ l.length ≤ 1000000000 → Lib.parseUint10 acc l = .ok (valD acc l)
  | [], _, _, _ => by rw [valD_nil]; rfl
  | c :: l, acc, h, hb => by
    rw [List.all_cons, Bool.and_eq_true] at h
    have h1 := digB_iff.1 h.1
    rw [List.length_cons, Nat.pow_succ, Nat.mul_comm (10 ^ l.length) 10, ← Nat.mul_assoc] at hb
    have h2 : (acc * 10 + (c.toNat - 48) + 1) * 10 ^ l.length ≤ ((acc + 1) * 10) * 10 ^ l.length := Nat.mul_le_mul_right _ (by omega)
    have h3 : (acc + 1) * 10 * 1 ≤ ((acc + 1) * 10) * 10 ^ l.length := Nat.mul_le_mul_left _ (Nat.pow_pos (by omega))
    rw [Lib.parseUint10, if_pos h1, if_neg (by omega), if_neg (by omega), valD_cons]
    exact parse_val l _ h.2 (by omega)
theorem dec_small {u : Nat} (h : u < 10) : Lib.decDigits u = [UInt8.ofNat (48 + u)] := by rw [Lib.decDigits, dif_pos h]
theorem dec_great {u : Nat} (h : ¬ u < 10) : Lib.decDigits u = Lib.decDigits (u / 10) ++ [UInt8.ofNat (48 + u % 10)] := by rw [Lib.decDigits, dif_neg h]
theorem digB_of {n : Nat} (h : n < 10) : digB (UInt8.ofNat (48 + n)) = true := by
  rw [digB_iff, UInt8.toNat_ofNat']; omega
/-- A number in digits: at least one, all of them digits, no 0 ahead of others. -/
theorem dec_all : ∀ (u : Nat), (Lib.decDigits u).all digB = true := fun u => by
  induction u using Nat.strongRecOn with
  | _ u ih =>
    by_cases h : u < 10
    · rw [dec_small h, List.all_cons, digB_of h]; rfl
    · rw [dec_great h, List.all_append, ih (u / 10) (by omega), List.all_cons, digB_of (by omega)]; rfl
theorem dec_head : ∀ (u : Nat), 1 ≤ u → ∃ c r, Lib.decDigits u = c :: r ∧ c.toNat ≠ 48 := fun u => by
  induction u using Nat.strongRecOn with
  | _ u ih =>
    intro h1
    by_cases h : u < 10
    · exact ⟨_, _, dec_small h, by rw [UInt8.toNat_ofNat']; omega⟩
    · obtain ⟨c, r, hc, hn⟩ := ih (u / 10) (by omega) (by omega)
      exact ⟨c, r ++ [UInt8.ofNat (48 + u % 10)], by rw [dec_great h, hc]; rfl, hn⟩
theorem dec_zero : Lib.decDigits 0 = [48] := dec_small (by omega)
def goodD (l : List UInt8) : Bool := decide (1 ≤ l.length) && decide (l.length ≤ 9) && l.all digB && (decide (l.length = 1) || decide (l.head? ≠ some 48))
theorem dec_canon : ∀ (n : Nat) (l : List UInt8), l.length = n + 1 → l.all digB = true → (n = 0 ∨ l.head? ≠ some 48) → Lib.decDigits (valD 0 l) = l ∧ (l.head? ≠ some 48 → 1 ≤ valD 0 l)
  | 0, l, hl, ha, _ => by
    obtain ⟨c, rfl⟩ : ∃ c, l = [c] := by
      match l, hl with
      | [c], _ => exact ⟨c, rfl⟩
    rw [List.all_cons, Bool.and_eq_true] at ha
    have h1 := digB_iff.1 ha.1
    have hv : valD 0 [c] = c.toNat - 48 := by rw [valD_cons, valD_nil]; omega
    rw [hv, dec_small (by omega)]
    refine ⟨?_, fun h => ?_⟩
    · rw [show 48 + (c.toNat - 48) = c.toNat from by omega, UInt8.ofNat_toNat]
    · have : c ≠ 48 := by simpa using h
      have : c.toNat ≠ 48 := fun h2 => this (UInt8.toNat_inj.1 h2)
      omega
  | n + 1, l, hl, ha, hh => by
    have hh := hh.resolve_left (by omega)
    rcases List.eq_nil_or_concat l with rfl | ⟨L, b, rfl⟩
    · cases hl
    · rw [List.concat_eq_append] at *
      rw [List.length_append, List.length_singleton] at hl
      rw [List.all_append, Bool.and_eq_true] at ha
      obtain ⟨c, r, rfl⟩ : ∃ c r, L = c :: r := by
        match L, hl with
        | c :: r, _ => exact ⟨c, r, rfl⟩
      have hhd : (c :: r).head? ≠ some 48 := hh
      obtain ⟨h1, h2⟩ := dec_canon n (c :: r) (by omega) ha.1 (.inr hhd)
      have hb := digB_iff.1 (by simpa using ha.2 : digB b = true)
      have hp := h2 hhd
      rw [valD_snoc]
      refine ⟨?_, fun _ => by omega⟩
      rw [dec_great (by omega), show (valD 0 (c :: r) * 10 + (b.toNat - 48)) / 10 = valD 0 (c :: r) from by omega, h1, show 48 + (valD 0 (c :: r) * 10 + (b.toNat - 48)) % 10 = b.toNat from by omega, UInt8.ofNat_toNat]
theorem numV_good (t : ByteArray) : (numV t).isSome = goodD t.data.toList := by
  have hs : t.data.toList.length = t.size := by rw [Array.length_toList]; rfl
  cases hg : goodD t.data.toList
  · cases hn : numV t with
    | none => rfl
    | some v =>
      exfalso
      unfold numV at hn
      split at hn
      · rename_i x hx
        split at hn
        · rename_i hc
          obtain ⟨h1, h2, h3⟩ := hc
          obtain ⟨u, rfl⟩ : ∃ u : Nat, x = u := ⟨x.toNat, by omega⟩
          have h4 : Lib.decDigits u = t.data.toList := by rw [← h2]; unfold Lib.itoa; rw [if_neg (by omega)]; simp
          rw [← h4] at hg hs
          unfold goodD at hg
          rw [dec_all] at hg
          by_cases h0 : u = 0
          · subst h0; rw [dec_zero] at hg; revert hg; decide
          · obtain ⟨c, r, hc, hn⟩ := dec_head u (by omega)
            rw [hc] at hg hs
            have : c ≠ 48 := fun h => hn (by rw [h]; rfl)
            have hl : (c :: r).length ≤ 9 := by omega
            simp [this] at hg
            simp at hl
            omega
        · cases hn
      · cases hn
  · unfold goodD at hg
    simp only [Bool.and_eq_true, Bool.or_eq_true, decide_eq_true_eq] at hg
    obtain ⟨⟨⟨h1, h2⟩, h3⟩, h4⟩ := hg
    have hv := (dec_canon (t.data.toList.length - 1) t.data.toList (by omega) h3 (h4.imp (fun h => by omega) id)).1
    have hp : Lib.parseUint10 0 t.data.toList = .ok (valD 0 t.data.toList) := parse_val _ _ h3 (by
      have : 10 ^ t.data.toList.length ≤ 10 ^ 9 := Nat.pow_le_pow_right (by omega) h2
      omega)
    have hlt := valD_lt t.data.toList 0 h3
    have hpw : 10 ^ t.data.toList.length ≤ 10 ^ 9 := Nat.pow_le_pow_right (by omega) h2
    have ha : Lib.atoiAll t.data.toList = .ok ((valD 0 t.data.toList : Nat) : Int) := by
      generalize valD 0 t.data.toList = v at *
      match hm : t.data.toList, h1 with
      | c :: r, _ =>
        rw [hm] at h3 hp
        rw [List.all_cons, Bool.and_eq_true] at h3
        have hc := digB_iff.1 h3.1
        unfold Lib.atoiAll
        simp only
        rw [if_neg (by omega)]
        unfold Lib.parseMag
        rw [if_neg (by simp), hp]
        simp only
        rw [if_neg (by omega), if_neg (by omega), if_neg (by omega)]
    unfold numV
    rw [ha]
    simp only
    rw [if_pos ⟨by omega, by unfold Lib.itoa; rw [if_neg (by omega)]; simpa using hv, by omega⟩]
    rfl
/-! ### names -/
theorem spanF_full (c : Nat → Bool) : ∀ f p, spanF c f p = p + f ↔ ∀ j, p ≤ j → j < p + f → c j = true
  | 0, p => by simp only [spanF, Nat.add_zero, true_iff]; intro j h1 h2; omega
  | f + 1, p => by
    have ih := spanF_full c f (p + 1)
    unfold spanF
    cases hc : c p
    · rw [if_neg (by simp)]
      constructor
      · intro h; omega
      · intro h; have := h p (Nat.le_refl _) (by omega); rw [hc] at this; cases this
    · rw [if_pos rfl, show p + (f + 1) = p + 1 + f from by omega, ih]
      constructor
      · intro h j h1 h2
        rcases Nat.eq_or_lt_of_le h1 with rfl | h3
        · exact hc
        · exact h j h3 h2
      · intro h j h1 h2; exact h j (by omega) h2
end Go.Proofs.YtjldgcpmdcoejaaGreatDoor
