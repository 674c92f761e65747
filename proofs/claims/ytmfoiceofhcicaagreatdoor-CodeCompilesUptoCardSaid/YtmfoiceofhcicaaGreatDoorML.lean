/- Plain: what holds of the reader's steps; where two slices of a call's own lie. No walk. -/
import Derived.Test.YtmfoiceofhcicaaGreatDoorMA
namespace Go.Proofs.YtmfoiceofhcicaaGreatDoor
open Go.RowKit

theorem own_own_ne {w : World} {B B' size size' n n' : Nat} {e e' : TypeId} {v v' : Value} {xs xs' : List Value} (h : w.ownsRow B e size v n xs) (h' : w.ownsRow B' e' size' v' n' xs') (hne : e ≠ e') : ∀ x ∈ v.ownBlock.toList, x ∉ v'.ownBlock.toList := by
  intro x hx hx'
  rcases h.2 with ⟨rfl, _⟩ | ⟨g, cap, cur, rfl, _, hg, _⟩
  · simp [Value.ownBlock] at hx
  · rcases h'.2 with ⟨rfl, _⟩ | ⟨g', cap', cur', rfl, _, hg', _⟩
    · simp [Value.ownBlock] at hx'
    · simp [Value.ownBlock] at hx hx'
      subst hx; subst hx'
      rw [hg] at hg'
      injection hg' with h1
      injection h1 with _ h2
      exact hne h2
theorem quotF_ge (s : ByteArray) (o : Nat) : ∀ (f p : Nat) (acc t : List UInt8) (q : Nat), quotF s o f p acc = .ok t q → p ≤ q ∧ q ≤ s.size ∧ acc.length ≤ t.length ∧ t.length + p ≤ acc.length + q
  | 0, _, _, _, _, h => by simp [quotF] at h
  | f + 1, p, acc, t, q, h => by
    unfold quotF at h
    split at h
    · rename_i hlt
      split at h
      · split at h
        · rename_i h2
          have h3 : p + 1 < s.size := byt_lt (by omega)
          have := quotF_ge s o f (p + 2) _ t q h
          simp at this; omega
        · injection h with h1 h2; subst h1; subst h2; omega
      · have := quotF_ge s o f (p + 1) _ t q h
        simp at this; omega
    · cases h
theorem quotS_ge {s : ByteArray} {p q : Nat} {t : List UInt8} (h : quotS s p = .ok t q) : p < q ∧ q ≤ s.size ∧ t.length + p ≤ q := by
  have := quotF_ge s p _ _ _ _ _ h
  simp at this; omega
theorem textP_tx (t : ByteArray) : (textP t).tx = t := rfl
theorem putS_ok {l l2 : List PT} {t : ByteArray} {o n o2 n2 b : Nat} (h : putS l t o n = .ok l2 o2 n2) (hb : ∀ a ∈ l, a.tx.size ≤ b) (hn : n ≤ 1024) : l2.length ≤ l.length + 1 ∧ (∀ a ∈ l2, a.tx.size ≤ b + t.size) ∧ n2 ≤ 1024 := by
  have new : (if n = 1024 then RM.bad 3 o else .ok (l ++ [textP t]) o (n + 1)) = .ok l2 o2 n2 → l2.length ≤ l.length + 1 ∧ (∀ a ∈ l2, a.tx.size ≤ b + t.size) ∧ n2 ≤ 1024 := fun h => by
    split at h
    · cases h
    · injection h with h1 h2 h3
      subst h1; subst h3
      refine ⟨by simp, fun a ha => ?_, by omega⟩
      rcases List.mem_append.1 ha with ha | ha
      · have := hb a ha; omega
      · simp at ha; subst ha; rw [textP_tx]; omega
  rcases snoc_or l with rfl | ⟨l1, a, rfl⟩
  · exact new (by unfold putS at h; simpa using h)
  · unfold putS at h
    simp only [List.getLast?_append, List.getLast?_singleton, Option.some_or, List.dropLast_concat] at h
    split at h
    · injection h with h1 h2 h3
      subst h1; subst h3
      refine ⟨by simp, fun c hc => ?_, hn⟩
      rcases List.mem_append.1 hc with hc | hc
      · have := hb c (List.mem_append_left _ hc); omega
      · simp at hc; subst hc
        have := hb a (by simp)
        simp only [ByteArray.size_append]; omega
    · exact new h

section
variable {s : ByteArray} {f d n p : Nat} {h : Bool} {l : List PT}
theorem msgF_end (hp : p = s.size ∨ byt s p = 125) : msgF s (f + 1) d h l p n = .ok l p n := by unfold msgF; rw [if_pos hp]
theorem msgF_arg (hp : byt s p = 123) : msgF s (f + 1) d h l p n = if n = 1024 then .bad 3 p else (argS s (fun h' => msgF s f (d + 1) h' []) f p (n + 1) d).then fun a q n2 => msgF s f d h (l ++ [a]) q n2 := by
  have h1 : p < s.size := byt_lt (by omega)
  rw [msgF, if_neg (by omega), if_pos hp]
theorem msgF_hash (hp : byt s p = 35) (hh : h = true) : msgF s (f + 1) d h l p n = if n = 1024 then .bad 3 p else msgF s f d h (l ++ [hashP]) (p + 1) (n + 1) := by
  have h1 : p < s.size := byt_lt (by omega)
  rw [msgF, if_neg (by omega), if_neg (by omega), if_pos ⟨hp, hh⟩]
theorem msgF_two (hp : byt s p = 39) (h2 : byt s (p + 1) = 39) : msgF s (f + 1) d h l p n = (putS l ⟨#[39]⟩ p n).then fun l2 _ n2 => msgF s f d h l2 (p + 2) n2 := by
  have h1 : p < s.size := byt_lt (by omega)
  rw [msgF, if_neg (by omega), if_neg (by omega), if_neg (by omega), if_pos ⟨hp, h2⟩]
theorem msgF_quot (hp : byt s p = 39) (h2 : byt s (p + 1) ≠ 39) (hq : quotB s h p = true) : msgF s (f + 1) d h l p n = (quotS s p).thenM fun t q => (putS l ⟨t.toArray⟩ p n).then fun l2 _ n2 => msgF s f d h l2 q n2 := by
  have h1 : p < s.size := byt_lt (by omega)
  rw [msgF, if_neg (by omega), if_neg (by omega), if_neg (by omega), if_neg (by omega), if_pos ⟨hp, hq⟩]
theorem msgF_byte (h0 : p < s.size) (h125 : byt s p ≠ 125) (h123 : byt s p ≠ 123) (hh : ¬ (byt s p = 35 ∧ h = true)) (h39 : ¬ (byt s p = 39 ∧ byt s (p + 1) = 39)) (hq : ¬ (byt s p = 39 ∧ quotB s h p = true)) :
    msgF s (f + 1) d h l p n = (putS l (s.extract p (p + 1)) p n).then fun l2 _ n2 => msgF s f d h l2 (p + 1) n2 := by
  rw [msgF, if_neg (by omega), if_neg h123, if_neg hh, if_neg h39, if_neg hq]
end
theorem rm_then {α β : Type} {r : RM α} {k : α → Nat → Nat → RM β} {x : β} {p n : Nat} (h : r.then k = .ok x p n) : ∃ a q m, r = .ok a q m ∧ k a q m = .ok x p n := by
  cases r with
  | out => cases h
  | bad e q => cases h
  | ok a q m => exact ⟨a, q, m, rfl, h⟩
theorem rr_then {α β : Type} {r : RR α} {k : α → Nat → RM β} {x : β} {p n : Nat} (h : r.thenM k = .ok x p n) : ∃ a q, r = .ok a q ∧ k a q = .ok x p n := by
  cases r with
  | out => cases h
  | bad e q => cases h
  | ok a q => exact ⟨a, q, rfl, h⟩
theorem byt_list (s : ByteArray) (i : Nat) : byt s i = match s.data.toList[i]? with | some b => (b.toNat : Int) | none => -1 := by
  rcases Nat.lt_or_ge i s.size with h | h
  · have h' : i < s.data.toList.length := by rw [Array.length_toList]; exact h
    rw [byt_in h, List.getElem?_eq_getElem h', Array.getElem_toList]
    rfl
  · have h' : s.data.toList.length ≤ i := by rw [Array.length_toList]; exact h
    rw [byt_out h, List.getElem?_eq_none h']
theorem byt_is (s : ByteArray) (i : Nat) (b : UInt8) : byt s i = b.toNat ↔ s.data.toList[i]? = some b := by
  rw [byt_list]
  cases s.data.toList[i]? with
  | none => simp
  | some c =>
    simp only [Option.some.injEq]
    constructor
    · intro h; exact UInt8.toNat_inj.1 (by omega)
    · rintro rfl; rfl
theorem data_from (s : ByteArray) (p : Nat) : (s.extract p s.size).data.toList = s.data.toList.drop p := by
  have hs : s.data.toList.length = s.size := by rw [Array.length_toList]; rfl
  simp only [ByteArray.data_extract, Array.toList_extract, List.extract_eq_drop_take']
  rw [List.take_of_length_le (by rw [hs]; omega)]
/-- Two quotes stand here. -/
theorem two_len {s : ByteArray} {p : Nat} : Lib.hasPrefix (s.extract p s.size).data.toList [39, 39] = true ↔ byt s p = 39 ∧ byt s (p + 1) = 39 := by
  have hg : ∀ i, byt s i = 39 ↔ s.data.toList[i]? = some 39 := fun i => byt_is s i 39
  unfold Lib.hasPrefix
  rw [List.isPrefixOf_iff_prefix, data_from, hg, hg, List.prefix_iff_getElem?]
  constructor
  · intro h
    have h0 := h 0 (by simp)
    have h1 := h 1 (by simp)
    rw [List.getElem?_drop] at h0 h1
    exact ⟨h0, h1⟩
  · rintro ⟨h0, h1⟩ i hi
    match i, hi with
    | 0, _ => rw [List.getElem?_drop]; exact h0
    | 1, _ => rw [List.getElem?_drop]; exact h1
    | i + 2, hi => simp at hi; omega
end Go.Proofs.YtmfoiceofhcicaaGreatDoor
