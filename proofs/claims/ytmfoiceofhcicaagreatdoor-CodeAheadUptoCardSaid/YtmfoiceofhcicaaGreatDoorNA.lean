/- Plain: the names of parts: as they are met, and rising. No walk. -/
import Derived.Test.YtmfoiceofhcicaaGreatDoorPL
namespace Go.Proofs.YtmfoiceofhcicaaGreatDoor
open Go.RowKit

abbrev PR := ByteArray × ByteArray
/-- A key stands ahead of another. -/
def kLt (a b : ByteArray) : Bool := decide (a.data.toList < b.data.toList)
theorem kLt_irrefl (a : ByteArray) : kLt a a = false := by simp [kLt, List.lt_irrefl]
theorem kLt_trans {a b c : ByteArray} (h1 : kLt a b = true) (h2 : kLt b c = true) : kLt a c = true := by
  simp only [kLt, decide_eq_true_eq] at *; exact List.lt_trans h1 h2
theorem kLt_eq {a b : ByteArray} (h1 : kLt a b = false) (h2 : kLt b a = false) : a = b := by
  simp only [kLt, decide_eq_false_iff_not, List.not_lt] at *
  have h := List.le_antisymm h2 h1
  obtain ⟨⟨a⟩⟩ := a
  obtain ⟨⟨b⟩⟩ := b
  simp only at h
  subst h
  rfl
theorem kLt_asymm {a b : ByteArray} (h1 : kLt a b = true) : kLt b a = false := by
  cases h2 : kLt b a
  · rfl
  · have := kLt_trans h1 h2; rw [kLt_irrefl] at this; cases this
theorem kLt_ne {a b : ByteArray} (h : kLt a b = true) : a ≠ b := fun e => by rw [e, kLt_irrefl] at h; cases h
/-- What is asked of a part's name. -/
def asksB (p : PT) : ByteArray := if p.k = 4 then ⟨#[116, 101, 120, 116]⟩ else if p.k = 5 ∨ p.k = 6 then ⟨#[110, 117, 109, 98, 101, 114]⟩ else p.ty
/-- A pair that is there, with one more of its key. -/
def updB (p x : PR) : PR := if x.1 = p.1 then (x.1, if x.2 = ⟨#[]⟩ then p.2 else x.2) else x
/-- One pair more, as they are met. -/
def addU : List PR → PR → List PR
  | [], p => [p]
  | x :: o, p => if x.1 = p.1 then updB p x :: o else x :: addU o p
/-- One pair more, rising. -/
def putR : List PR → PR → List PR
  | [], p => [p]
  | x :: o, p => if kLt x.1 p.1 = true then x :: putR o p else if x.1 = p.1 then updB p x :: o else p :: x :: o
def stepC (K : List PT → List PR → List PR) (o : List PR) (c : CT) : List PR := K c.2 o
def stepN (ADD : List PR → PR → List PR) (K : List PT → List PR → List PR) (o : List PR) (p : PT) : List PR :=
  (casesP p).foldl (stepC K) (if 3 ≤ p.k ∧ p.k ≤ 6 then ADD o (p.nm, asksB p) else o)
/-- The keys rise. -/
def Rise (r : List PR) : Prop := r.Pairwise fun a b => kLt a.1 b.1 = true
theorem updB_key (p x : PR) : (updB p x).1 = x.1 := by unfold updB; split <;> rfl
theorem updB_ne {p x : PR} (h : x.1 ≠ p.1) : updB p x = x := by unfold updB; rw [if_neg h]
theorem map_updB_ne {p : PR} : ∀ {l : List PR}, (∀ x ∈ l, x.1 ≠ p.1) → l.map (updB p) = l
  | [], _ => rfl
  | x :: l, h => by rw [List.map_cons, updB_ne (h x (List.mem_cons_self ..)), map_updB_ne fun y hy => h y (List.mem_cons_of_mem _ hy)]
theorem addU_mem {p : PR} : ∀ {o : List PR}, (o.map (·.1)).Nodup → p.1 ∈ o.map (·.1) → addU o p = o.map (updB p)
  | [], _, h => by simp at h
  | x :: o, hn, h => by
    rw [List.map_cons, List.nodup_cons] at hn
    unfold addU
    by_cases hx : x.1 = p.1
    · rw [if_pos hx, List.map_cons, map_updB_ne]
      intro y hy e
      exact hn.1 (by rw [hx, ← e]; exact List.mem_map_of_mem hy)
    · rw [if_neg hx, List.map_cons, updB_ne hx, addU_mem hn.2]
      rw [List.map_cons, List.mem_cons] at h
      exact h.resolve_left fun e => hx e.symm
theorem addU_not {p : PR} : ∀ {o : List PR}, p.1 ∉ o.map (·.1) → addU o p = o ++ [p]
  | [], _ => rfl
  | x :: o, h => by
    rw [List.map_cons, List.mem_cons, not_or] at h
    unfold addU
    rw [if_neg fun e => h.1 e.symm, addU_not h.2]
    rfl
theorem Rise.nodup {r : List PR} (h : Rise r) : (r.map (·.1)).Nodup := by
  unfold List.Nodup
  rw [List.pairwise_map]
  exact List.Pairwise.imp (fun h => kLt_ne h) h
theorem putR_mem {p : PR} : ∀ {r : List PR}, Rise r → p.1 ∈ r.map (·.1) → putR r p = r.map (updB p)
  | [], _, h => by simp at h
  | x :: r, hr, h => by
    have hr1 := List.pairwise_cons.1 hr
    unfold putR
    by_cases hx : x.1 = p.1
    · rw [if_neg (by rw [hx, kLt_irrefl]; decide), if_pos hx, List.map_cons, map_updB_ne]
      intro y hy e
      have := kLt_ne (hr1.1 y hy)
      exact this (by rw [hx, e])
    · rw [List.map_cons, List.mem_cons] at h
      have h2 := h.resolve_left fun e => hx e.symm
      obtain ⟨y, hy, e⟩ := List.mem_map.1 h2
      rw [if_pos (by rw [← e]; exact hr1.1 y hy), putR_mem hr1.2 h2, List.map_cons, updB_ne hx]
theorem putR_not {p : PR} : ∀ {r : List PR}, p.1 ∉ r.map (·.1) → (putR r p).Perm (p :: r)
  | [], _ => List.Perm.refl _
  | x :: r, h => by
    rw [List.map_cons, List.mem_cons, not_or] at h
    unfold putR
    split
    · exact ((putR_not h.2).cons x).trans (List.Perm.swap ..)
    · rw [if_neg fun e => h.1 e.symm]
theorem putR_keys {p : PR} : ∀ {r : List PR} {x : PR}, x ∈ putR r p → x.1 = p.1 ∨ ∃ y ∈ r, x.1 = y.1
  | [], x, h => by
    simp only [putR, List.mem_singleton] at h
    exact .inl (by rw [h])
  | y :: r, x, h => by
    unfold putR at h
    split at h
    · rcases List.mem_cons.1 h with rfl | h
      · exact .inr ⟨_, List.mem_cons_self .., rfl⟩
      · rcases putR_keys h with h | ⟨z, hz, e⟩
        · exact .inl h
        · exact .inr ⟨z, List.mem_cons_of_mem _ hz, e⟩
    · split at h
      · rcases List.mem_cons.1 h with rfl | h
        · exact .inr ⟨y, List.mem_cons_self .., updB_key _ _⟩
        · exact .inr ⟨x, List.mem_cons_of_mem _ h, rfl⟩
      · rcases List.mem_cons.1 h with rfl | h
        · exact .inl rfl
        · exact .inr ⟨x, h, rfl⟩
theorem Rise.put {p : PR} : ∀ {r : List PR}, Rise r → Rise (putR r p)
  | [], _ => List.pairwise_singleton ..
  | x :: r, hr => by
    have hr1 := List.pairwise_cons.1 hr
    unfold putR
    split
    · rename_i h
      refine List.pairwise_cons.2 ⟨fun y hy => ?_, Rise.put hr1.2⟩
      rcases putR_keys hy with e | ⟨z, hz, e⟩
      · rw [e]; exact h
      · rw [e]; exact hr1.1 z hz
    · rename_i h
      split
      · exact List.pairwise_cons.2 ⟨fun y hy => by rw [updB_key]; exact hr1.1 y hy, hr1.2⟩
      · rename_i h2
        have h3 : kLt p.1 x.1 = true := by
          cases h3 : kLt p.1 x.1
          · exact absurd (kLt_eq (by simpa using h) h3) h2
          · rfl
        refine List.pairwise_cons.2 ⟨fun y hy => ?_, hr⟩
        rcases List.mem_cons.1 hy with rfl | hy
        · exact h3
        · exact kLt_trans h3 (hr1.1 y hy)
/-- The two lists of names go together. -/
def Together (o r : List PR) : Prop := o.Perm r ∧ Rise r
theorem Together.add {o r : List PR} (h : Together o r) (p : PR) : Together (addU o p) (putR r p) := by
  refine ⟨?_, h.2.put⟩
  have hk := h.1.map (·.1)
  by_cases hm : p.1 ∈ r.map (·.1)
  · rw [addU_mem (hk.symm.nodup h.2.nodup) (hk.mem_iff.2 hm), putR_mem h.2 hm]
    exact h.1.map _
  · rw [addU_not fun hm' => hm (hk.mem_iff.1 hm')]
    exact (List.perm_append_singleton p o).trans ((h.1.cons p).trans (putR_not hm).symm)
theorem Together.cases {K1 K2 : List PT → List PR → List PR} (hK : ∀ l o r, Together o r → Together (K1 l o) (K2 l r)) : ∀ (cs : List CT) {o r : List PR}, Together o r → Together (cs.foldl (stepC K1) o) (cs.foldl (stepC K2) r)
  | [], _, _, h => h
  | c :: cs, _, _, h => Together.cases hK cs (hK c.2 _ _ h)
theorem Together.parts {K1 K2 : List PT → List PR → List PR} (hK : ∀ l o r, Together o r → Together (K1 l o) (K2 l r)) : ∀ (l : List PT) {o r : List PR}, Together o r → Together (l.foldl (stepN addU K1) o) (l.foldl (stepN putR K2) r)
  | [], _, _, h => h
  | p :: l, o, r, h => by
    refine Together.parts hK l (Together.cases hK _ ?_)
    split
    · exact h.add _
    · exact h
end Go.Proofs.YtmfoiceofhcicaaGreatDoor
