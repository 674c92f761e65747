/- Plain: what numpat's functions compute. No program. -/
import Derived.Test.YtkkglaglnfebjaaDoorUtf
import Derived.Test.YtkkglaglnfebjaaDoorBase
import Derived.Lib.IndexLaws
import Derived.Lib.Bytealg
namespace Go.Proofs.YtkkglaglnfebjaaDoor
open Go.RowKit

/-- A piece of what stands around a number. -/
structure Aff where
  k : Int
  t : ByteArray
  c : Int
def Aff.cells (a : Aff) : List Value := [.int .i64 a.k, .string a.t, .int .i64 a.c]
def affC (l : List Aff) : List Value := l.flatMap Aff.cells
theorem affC_length (l : List Aff) : (affC l).length = l.length * 3 := by
  induction l with
  | nil => rfl
  | cons a l ih => simp only [affC, List.flatMap_cons, List.length_append, List.length_cons, Aff.cells] at *; rw [ih]; simp; omega
theorem affC_append (l m : List Aff) : affC (l ++ m) = affC l ++ affC m := by simp [affC]
theorem affC_one (a : Aff) : affC [a] = a.cells := by simp [affC]
theorem affC_at (l : List Aff) (i : Nat) (a : Aff) (h : l[i]? = some a) : (affC l)[i * 3]? = some (.int .i64 a.k) ∧ (affC l)[i * 3 + 1]? = some (.string a.t) ∧ (affC l)[i * 3 + 2]? = some (.int .i64 a.c) := by
  induction l generalizing i with
  | nil => simp at h
  | cons b l ih =>
    cases i with
    | zero =>
      simp at h
      subst h
      exact ⟨rfl, rfl, rfl⟩
    | succ i =>
      have := ih i (by simpa using h)
      have e : affC (b :: l) = [.int .i64 b.k, .string b.t, .int .i64 b.c] ++ affC l := by simp [affC, Aff.cells]
      rw [e]
      have e1 : (i + 1) * 3 = 3 + i * 3 := by omega
      have e2 : (i + 1) * 3 + 1 = 3 + (i * 3 + 1) := by omega
      have e3 : (i + 1) * 3 + 2 = 3 + (i * 3 + 2) := by omega
      refine ⟨?_, ?_, ?_⟩
      · rw [e1, List.getElem?_append_right (by simp)]; simpa using this.1
      · rw [e2, List.getElem?_append_right (by simp)]; simpa using this.2.1
      · rw [e3, List.getElem?_append_right (by simp)]; simpa using this.2.2
/-- A text behind pieces: of the last one, if that is a text. -/
def textAdd (l : List Aff) (x : ByteArray) : List Aff :=
  match l.getLast? with
  | some a => if a.k = 1 then l.dropLast ++ [⟨a.k, a.t ++ x, a.c⟩] else l ++ [⟨1, x, 0⟩]
  | none => l ++ [⟨1, x, 0⟩]
theorem textAdd_text (l : List Aff) (a : Aff) (x : ByteArray) (h : a.k = 1) : textAdd (l ++ [a]) x = l ++ [⟨a.k, a.t ++ x, a.c⟩] := by
  simp [textAdd, h]
theorem textAdd_new (l : List Aff) (x : ByteArray) (h : ∀ a, l.getLast? = some a → a.k ≠ 1) : textAdd l x = l ++ [⟨1, x, 0⟩] := by
  unfold textAdd
  split
  · rename_i a ha; rw [if_neg (h a ha)]
  · rfl
theorem set_at_end (xs ys : List Value) (i : Nat) (u : Value) : (xs ++ ys).set (xs.length + i) u = xs ++ ys.set i u := by
  rw [List.set_append_right _ _ (by omega)]; simp
theorem affC_set_text (l : List Aff) (a : Aff) (y : ByteArray) : (affC (l ++ [a])).set (l.length * 3 + 1) (.string y) = affC (l ++ [⟨a.k, y, a.c⟩]) := by
  rw [affC_append, affC_append, affC_one, affC_one, ← affC_length, set_at_end]; rfl
theorem affC_set_count (l : List Aff) (a : Aff) (n : Int) : (affC (l ++ [a])).set (l.length * 3 + 2) (.int .i64 n) = affC (l ++ [⟨a.k, a.t, n⟩]) := by
  rw [affC_append, affC_append, affC_one, affC_one, ← affC_length, set_at_end]; rfl
/-- The value v is a slice of the call's own (its block lies from B on) that holds these pieces. -/
def OwnA (w : World) (B : Nat) (v : Value) (l : List Aff) : Prop := w.ownsRow B 42 3 v l.length (affC l)
section
variable {w w' : World} {B : Nat} {v : Value} {l : List Aff} {bs : List Nat}
theorem OwnA.nil (w : World) (B : Nat) : OwnA w B (.slice none 0 0) [] := World.ownsRow_nil w B _ 3
theorem OwnA.lt (h : OwnA w B v l) : ∀ x ∈ v.ownBlock.toList, B ≤ x := fun x hx => (World.ownsRow.lt h x (by simpa using hx)).1
theorem OwnA.notin (h : OwnA w B v l) {g : Nat} (hg : g < B) : g ∉ v.ownBlock.toList := fun hx => by have := h.lt g hx; omega
theorem OwnA.keep (h : OwnA w B v l) (hk : Keep bs w w') (hb : ∀ x ∈ v.ownBlock.toList, x ∉ bs) : OwnA w' B v l := by
  refine ⟨h.1, ?_⟩
  rcases h.2 with hn | ⟨g, cap, cur, rfl, hB, hg, rest⟩
  · exact .inl hn
  · refine .inr ⟨g, cap, cur, rfl, hB, ?_, rest⟩
    rw [hk.block g (Array.getElem?_eq_some_iff.1 hg).1 (hb g (by simp [Value.ownBlock]))]
    exact hg
theorem OwnA.form (h : OwnA w B v l) : ∃ A cap, v = .slice A l.length cap ∧ (l ≠ [] → ∃ g, A = some ⟨g, 0, none⟩ ∧ B ≤ g ∧ g < w.heap.size) := by
  rcases h.2 with ⟨rfl, h0⟩ | ⟨g, cap, cur, rfl, hB, hg, _⟩
  · exact ⟨none, 0, by rw [h0], fun hl => absurd (List.eq_nil_of_length_eq_zero h0) hl⟩
  · exact ⟨_, _, rfl, fun _ => ⟨g, rfl, hB, (Array.getElem?_eq_some_iff.1 hg).1⟩⟩
end

/-- Where the next apostrophe stands behind q, from q; -1: nowhere. -/
def aposAt (s : ByteArray) (q : Nat) : Int := Lib.indexByte (s.extract q s.size).data.toList 39
theorem aposAt_ge (s : ByteArray) (q : Nat) : -1 ≤ aposAt s q := Lib.indexByte_ge _ _
theorem aposAt_lt (s : ByteArray) (q : Nat) (h : 0 ≤ aposAt s q) : q + (aposAt s q).toNat < s.size := by
  have h1 : Lib.indexByte (s.extract q s.size).data.toList 39 = ((aposAt s q).toNat : Int) := by rw [Int.toNat_of_nonneg h]; rfl
  have h2 := (Lib.indexByte_some h1).1
  have h3 := (List.getElem?_eq_some_iff.1 h2).1
  have h4 : (s.extract q s.size).data.toList.length = s.size - q := by
    have : (s.extract q s.size).data.size = (s.extract q s.size).size := rfl
    rw [Array.length_toList, this]; simp
  omega
def quotedF (s : ByteArray) : Nat → Nat → List UInt8 → Option (List UInt8 × Nat)
  | 0, _, _ => none
  | f + 1, q, acc =>
    if aposAt s q < 0 then none
    else if q + (aposAt s q).toNat + 1 < s.size ∧ (s.get! (q + (aposAt s q).toNat + 1)).toNat = 39 then
      quotedF s f (q + (aposAt s q).toNat + 2) (acc ++ (s.extract q (q + (aposAt s q).toNat)).data.toList ++ [39])
    else some (acc ++ (s.extract q (q + (aposAt s q).toNat)).data.toList, q + (aposAt s q).toNat + 1)
/-- A quoted text, its first apostrophe being taken: the bytes, and the place behind; none: it has no end. -/
def quotedS (s : ByteArray) (p : Nat) : Option (List UInt8 × Nat) :=
  if p < s.size ∧ (s.get! p).toNat = 39 then some ([39], p + 1) else quotedF s (s.size + 1 - p) p []

theorem quotedF_len (s : ByteArray) (p : Nat) : ∀ f q acc t r, quotedF s f q acc = some (t, r) → acc.length + p ≤ q → q ≤ s.size → t.length + p + 1 ≤ r ∧ r ≤ s.size ∧ q < r
  | 0, _, _, _, _, h, _, _ => by simp [quotedF] at h
  | f + 1, q, acc, t, r, h, hq, hs => by
    have hx : ∀ k, q + k ≤ s.size → (s.extract q (q + k)).data.toList.length = k := fun k hk => by
      have : (s.extract q (q + k)).data.size = (s.extract q (q + k)).size := rfl
      rw [Array.length_toList, this, ByteArray.size_extract]; omega
    simp only [quotedF] at h
    split at h
    · cases h
    · rename_i hn
      have hlt := aposAt_lt s q (by omega)
      generalize (aposAt s q).toNat = k at *
      split at h
      · rename_i hc
        have h1 := quotedF_len s p f _ _ t r h (by rw [List.length_append, List.length_append, hx k (by omega)]; simp; omega) (by omega)
        omega
      · simp only [Option.some.injEq, Prod.mk.injEq] at h
        obtain ⟨rfl, rfl⟩ := h
        rw [List.length_append, hx k (by omega)]
        omega
theorem quotedS_len (s : ByteArray) (p : Nat) (t : List UInt8) (r : Nat) (hs : p ≤ s.size) (h : quotedS s p = some (t, r)) : t.length + p ≤ r ∧ r ≤ s.size ∧ p < r := by
  unfold quotedS at h
  split at h
  · rename_i hc
    simp only [Option.some.injEq, Prod.mk.injEq] at h
    obtain ⟨rfl, rfl⟩ := h
    simp; omega
  · have := quotedF_len s p _ p [] t r h (by simp) hs
    omega

/-- The bytes that end what stands around. -/
def stopB (x : Int) : Bool := x == -1 || x == 35 || x == 48 || x == 44 || x == 46 || x == 59 || x == 123 || x == 125
/-- One currency sign more; none: three stood there. -/
def moneyAdd (l : List Aff) : Option (List Aff) :=
  match l.getLast? with
  | some a => if a.k = 5 then (if a.c = 3 then none else some (l.dropLast ++ [⟨a.k, a.t, a.c + 1⟩])) else some (l ++ [⟨5, ⟨#[]⟩, 1⟩])
  | none => some (l ++ [⟨5, ⟨#[]⟩, 1⟩])
/-- What stands around digits: the pieces and the place behind, or the place of what is wrong. -/
def aroundF (s : ByteArray) : Nat → Nat → List Aff → Except Nat (List Aff × Nat)
  | 0, p, l => .ok (l, p)
  | f + 1, p, l =>
    if s.size ≤ p then .ok (l, p)
    else if stopB (formD s p).1 then .ok (l, p)
    else if (formD s p).1 = 37 then aroundF s f (p + (formD s p).2) (l ++ [⟨2, ⟨#[]⟩, 0⟩])
    else if (formD s p).1 = 45 then aroundF s f (p + (formD s p).2) (l ++ [⟨3, ⟨#[]⟩, 0⟩])
    else if (formD s p).1 = 43 then aroundF s f (p + (formD s p).2) (l ++ [⟨4, ⟨#[]⟩, 0⟩])
    else if (formD s p).1 = 164 then (match moneyAdd l with | none => .error p | some l' => aroundF s f (p + (formD s p).2) l')
    else if (formD s p).1 = 39 then (match quotedS s (p + 1) with | none => .error p | some (t, q) => aroundF s f q (textAdd l ⟨t.toArray⟩))
    else aroundF s f (p + (formD s p).2) (textAdd l (s.extract p (p + (formD s p).2)))
/-- What is known of the pieces at place p. -/
def AffIn (l : List Aff) (p : Nat) : Prop := l.length ≤ p ∧ ∀ a ∈ l, a.t.size ≤ p ∧ 0 ≤ a.c ∧ a.c ≤ 3
theorem AffIn.nil (p : Nat) : AffIn [] p := ⟨Nat.zero_le _, fun a h => by cases h⟩
theorem AffIn.push {l : List Aff} {p q : Nat} (h : AffIn l p) (hq : p < q) (a : Aff) (h1 : a.t.size ≤ q) (h2 : 0 ≤ a.c ∧ a.c ≤ 3) : AffIn (l ++ [a]) q :=
  ⟨by have := h.1; simp; omega, fun b hb => by
    rcases List.mem_append.1 hb with hb | hb
    · have := h.2 b hb; omega
    · simp at hb; subst hb; exact ⟨h1, h2⟩⟩
theorem AffIn.last {l : List Aff} {a b : Aff} {p q : Nat} (h : AffIn (l ++ [a]) p) (hq : p ≤ q) (h1 : b.t.size ≤ q) (h2 : 0 ≤ b.c ∧ b.c ≤ 3) : AffIn (l ++ [b]) q :=
  ⟨by have := h.1; simp at this ⊢; omega, fun x hx => by
    rcases List.mem_append.1 hx with hb | hb
    · have := h.2 x (List.mem_append.2 (.inl hb)); omega
    · simp at hb; subst hb; exact ⟨h1, h2⟩⟩
theorem AffIn.at_last {l : List Aff} {a : Aff} {p : Nat} (h : AffIn (l ++ [a]) p) : a.t.size ≤ p ∧ 0 ≤ a.c ∧ a.c ≤ 3 := h.2 a (by simp)
theorem AffIn.text {l : List Aff} {p q : Nat} (h : AffIn l p) (hq : p < q) (x : ByteArray) (hx : x.size + p ≤ q) : AffIn (textAdd l x) q := by
  unfold textAdd
  split
  · rename_i a ha
    split
    · obtain ⟨l0, rfl⟩ : ∃ l0, l = l0 ++ [a] := by
        rcases List.eq_nil_or_concat l with h0 | ⟨l0, b, h0⟩
        · subst h0; simp at ha
        · rw [List.concat_eq_append] at h0
          subst h0
          simp at ha
          exact ⟨l0, by rw [ha]⟩
      have := h.at_last
      rw [List.dropLast_concat]
      exact h.last (by omega) (by rw [ByteArray.size_append]; omega) this.2
    · exact h.push hq _ (by simp only; omega) (by constructor <;> simp)
  · exact h.push hq _ (by simp only; omega) (by constructor <;> simp)

section
variable {s : ByteArray} {f p : Nat} {l : List Aff} {x : Int} {n : Nat}
theorem aroundF_end (h : s.size ≤ p) : aroundF s (f + 1) p l = .ok (l, p) := by simp only [aroundF]; rw [if_pos h]
theorem aroundF_stop (h : p < s.size) (hx : formD s p = (x, n)) (hs : stopB x = true) : aroundF s (f + 1) p l = .ok (l, p) := by
  simp only [aroundF]; rw [if_neg (by omega), hx, if_pos hs]
theorem aroundF_sign (k : Int) (h : p < s.size) (hx : formD s p = (x, n)) (hk : x = 37 ∧ k = 2 ∨ x = 45 ∧ k = 3 ∨ x = 43 ∧ k = 4) : aroundF s (f + 1) p l = aroundF s f (p + n) (l ++ [⟨k, ⟨#[]⟩, 0⟩]) := by
  simp only [aroundF]; rw [if_neg (by omega), hx]
  rcases hk with ⟨rfl, rfl⟩ | ⟨rfl, rfl⟩ | ⟨rfl, rfl⟩ <;> simp [stopB]
theorem aroundF_money (h : p < s.size) (hx : formD s p = (164, n)) : aroundF s (f + 1) p l = (match moneyAdd l with | none => .error p | some l' => aroundF s f (p + n) l') := by
  simp only [aroundF]; rw [if_neg (by omega), hx]
  simp [stopB]
theorem aroundF_quote (h : p < s.size) (hx : formD s p = (39, n)) : aroundF s (f + 1) p l = (match quotedS s (p + 1) with | none => .error p | some (t, q) => aroundF s f q (textAdd l ⟨t.toArray⟩)) := by
  simp only [aroundF]; rw [if_neg (by omega), hx]
  simp [stopB]
theorem aroundF_text (h : p < s.size) (hx : formD s p = (x, n)) (h1 : stopB x = false) (h2 : x ≠ 37 ∧ x ≠ 45 ∧ x ≠ 43 ∧ x ≠ 164 ∧ x ≠ 39) : aroundF s (f + 1) p l = aroundF s f (p + n) (textAdd l (s.extract p (p + n))) := by
  simp only [aroundF]; rw [if_neg (by omega), hx]
  simp [h1, h2]
end
end Go.Proofs.YtkkglaglnfebjaaDoor
