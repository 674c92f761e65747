/- Plain: the names of parts: as they are met, and rising. No walk. Plain: names of two lists, one behind the other; sameness of parts. No walk. Walks: message.Same, with slices.EqualFunc at parts and at cases, and its closures. Walks: message.Same: its closure on two parts; slices.EqualFunc at parts. -/
import Derived.Test.YtjldgcpmdcoejaaGreatDoorPL
import Derived.Test.YtjldgcpmdcoejaaGreatDoorPB
namespace Go.Proofs.YtjldgcpmdcoejaaGreatDoor
open Go.RowKit

abbrev PR := ByteArray × ByteArray
/-- A key stands ahead of another. -/
def kLt (a b : ByteArray) : Bool := decide (a.data.toList < b.data.toList)
theorem kLt_irrefl (a : ByteArray) : kLt a a = false := by simp [kLt, List.lt_irrefl]
theorem kLt_trans {a b c : ByteArray} (h1 : kLt a b = true) (h2 : kLt b c = true) : kLt a c = true := by
  simp only [kLt, decide_eq_true_eq] at *; exact List.lt_trans h1 h2
theorem kLt_eq {a b : ByteArray} (h1 : kLt a b = false) (h2 : kLt b a = false) : a = b := by
  simp only [kLt, decide_eq_false_iff_not, List.not_lt] at *
  have h := List.le_antisymm h2 h1
  obtain ⟨⟨a⟩⟩ := a
  obtain ⟨⟨b⟩⟩ := b
  simp only at h
  subst h
  rfl
theorem kLt_ne {a b : ByteArray} (h : kLt a b = true) : a ≠ b := fun e => by rw [e, kLt_irrefl] at h; cases h
/-- What is asked of a part's name. -/
def asksB (p : PT) : ByteArray := if p.k = 4 then ⟨#[116, 101, 120, 116]⟩ else if p.k = 5 ∨ p.k = 6 then ⟨#[110, 117, 109, 98, 101, 114]⟩ else p.ty
/-- A pair that is there, with one more of its key. -/
def updB (p x : PR) : PR := if x.1 = p.1 then (x.1, if x.2 = ⟨#[]⟩ then p.2 else x.2) else x
/-- One pair more, as they are met. -/
def addU : List PR → PR → List PR
  | [], p => [p]
  | x :: o, p => if x.1 = p.1 then updB p x :: o else x :: addU o p
/-- One pair more, rising. -/
def putR : List PR → PR → List PR
  | [], p => [p]
  | x :: o, p => if kLt x.1 p.1 = true then x :: putR o p else if x.1 = p.1 then updB p x :: o else p :: x :: o
def stepC (K : List PT → List PR → List PR) (o : List PR) (c : CT) : List PR := K c.2 o
def stepN (ADD : List PR → PR → List PR) (K : List PT → List PR → List PR) (o : List PR) (p : PT) : List PR :=
  (casesP p).foldl (stepC K) (if 3 ≤ p.k ∧ p.k ≤ 6 then ADD o (p.nm, asksB p) else o)
/-- The keys rise. -/
def Rise (r : List PR) : Prop := r.Pairwise fun a b => kLt a.1 b.1 = true
theorem updB_key (p x : PR) : (updB p x).1 = x.1 := by unfold updB; split <;> rfl
theorem updB_ne {p x : PR} (h : x.1 ≠ p.1) : updB p x = x := by unfold updB; rw [if_neg h]
theorem map_updB_ne {p : PR} : ∀ {l : List PR}, (∀ x ∈ l, x.1 ≠ p.1) → l.map (updB p) = l
  | [], _ => rfl
  | x :: l, h => by rw [List.map_cons, updB_ne (h x (List.mem_cons_self ..)), map_updB_ne fun y hy => h y (List.mem_cons_of_mem _ hy)]
theorem addU_mem {p : PR} : ∀ {o : List PR}, (o.map (·.1)).Nodup → p.1 ∈ o.map (·.1) → addU o p = o.map (updB p)
  | [], _, h => by simp at h
  | x :: o, hn, h => by
    rw [List.map_cons, List.nodup_cons] at hn
    unfold addU
    by_cases hx : x.1 = p.1
    · rw [if_pos hx, List.map_cons, map_updB_ne]
      intro y hy e
      exact hn.1 (by rw [hx, ← e]; exact List.mem_map_of_mem hy)
    · rw [if_neg hx, List.map_cons, updB_ne hx, addU_mem hn.2]
      rw [List.map_cons, List.mem_cons] at h
      exact h.resolve_left fun e => hx e.symm
theorem addU_not {p : PR} : ∀ {o : List PR}, p.1 ∉ o.map (·.1) → addU o p = o ++ [p]
  | [], _ => rfl
  | x :: o, h => by
    rw [List.map_cons, List.mem_cons, not_or] at h
    unfold addU
    rw [if_neg fun e => h.1 e.symm, addU_not h.2]
    rfl
theorem Rise.nodup {r : List PR} (h : Rise r) : (r.map (·.1)).Nodup := by
  unfold List.Nodup
  rw [List.pairwise_map]
  exact List.Pairwise.imp (fun h => kLt_ne h) h
theorem putR_mem {p : PR} : ∀ {r : List PR}, Rise r → p.1 ∈ r.map (·.1) → putR r p = r.map (updB p)
  | [], _, h => by simp at h
  | x :: r, hr, h => by
    have hr1 := List.pairwise_cons.1 hr
    unfold putR
    by_cases hx : x.1 = p.1
    · rw [if_neg (by rw [hx, kLt_irrefl]; decide), if_pos hx, List.map_cons, map_updB_ne]
      intro y hy e
      have := kLt_ne (hr1.1 y hy)
      exact this (by rw [hx, e])
    · rw [List.map_cons, List.mem_cons] at h
      have h2 := h.resolve_left fun e => hx e.symm
      obtain ⟨y, hy, e⟩ := List.mem_map.1 h2
      rw [if_pos (by rw [← e]; exact hr1.1 y hy), putR_mem hr1.2 h2, List.map_cons, updB_ne hx]
theorem putR_not {p : PR} : ∀ {r : List PR}, p.1 ∉ r.map (·.1) → (putR r p).Perm (p :: r)
  | [], _ => List.Perm.refl _
  | x :: r, h => by
    rw [List.map_cons, List.mem_cons, not_or] at h
    unfold putR
    split
    · exact ((putR_not h.2).cons x).trans (List.Perm.swap ..)
    · rw [if_neg fun e => h.1 e.symm]
theorem putR_keys {p : PR} : ∀ {r : List PR} {x : PR}, x ∈ putR r p → x.1 = p.1 ∨ ∃ y ∈ r, x.1 = y.1
  | [], x, h => by
    simp only [putR, List.mem_singleton] at h
    exact .inl (by rw [h])
  | y :: r, x, h => by
    unfold putR at h
    split at h
    · rcases List.mem_cons.1 h with rfl | h
      · exact .inr ⟨_, List.mem_cons_self .., rfl⟩
      · rcases putR_keys h with h | ⟨z, hz, e⟩
        · exact .inl h
        · exact .inr ⟨z, List.mem_cons_of_mem _ hz, e⟩
    · split at h
      · rcases List.mem_cons.1 h with rfl | h
        · exact .inr ⟨y, List.mem_cons_self .., updB_key _ _⟩
        · exact .inr ⟨x, List.mem_cons_of_mem _ h, rfl⟩
      · rcases List.mem_cons.1 h with rfl | h
        · exact .inl rfl
        · exact .inr ⟨x, h, rfl⟩
theorem Rise.put {p : PR} : ∀ {r : List PR}, Rise r → Rise (putR r p)
  | [], _ => List.pairwise_singleton ..
  | x :: r, hr => by
    have hr1 := List.pairwise_cons.1 hr
    unfold putR
    split
    · rename_i h
      refine List.pairwise_cons.2 ⟨fun y hy => ?_, Rise.put hr1.2⟩
      rcases putR_keys hy with e | ⟨z, hz, e⟩
      · rw [e]; exact h
      · rw [e]; exact hr1.1 z hz
    · rename_i h
      split
      · exact List.pairwise_cons.2 ⟨fun y hy => by rw [updB_key]; exact hr1.1 y hy, hr1.2⟩
      · rename_i h2
        have h3 : kLt p.1 x.1 = true := by
          cases h3 : kLt p.1 x.1
          · exact absurd (kLt_eq (by simpa using h) h3) h2
          · rfl
        refine List.pairwise_cons.2 ⟨fun y hy => ?_, hr⟩
        rcases List.mem_cons.1 hy with rfl | hy
        · exact h3
        · exact kLt_trans h3 (hr1.1 y hy)
/-- The two lists of names go together. -/
def Together (o r : List PR) : Prop := o.Perm r ∧ Rise r
theorem Together.add {o r : List PR} (h : Together o r) (p : PR) : Together (addU o p) (putR r p) := by
  refine ⟨?_, h.2.put⟩
  have hk := h.1.map (·.1)
  by_cases hm : p.1 ∈ r.map (·.1)
  · rw [addU_mem (hk.symm.nodup h.2.nodup) (hk.mem_iff.2 hm), putR_mem h.2 hm]
    exact h.1.map _
  · rw [addU_not fun hm' => hm (hk.mem_iff.1 hm')]
    exact (List.perm_append_singleton p o).trans ((h.1.cons p).trans (putR_not hm).symm)
theorem Together.cases {K1 K2 : List PT → List PR → List PR} (hK : ∀ l o r, Together o r → Together (K1 l o) (K2 l r)) : ∀ (cs : List CT) {o r : List PR}, Together o r → Together (cs.foldl (stepC K1) o) (cs.foldl (stepC K2) r)
  | [], _, _, h => h
  | c :: cs, _, _, h => Together.cases hK cs (hK c.2 _ _ h)
theorem Together.parts {K1 K2 : List PT → List PR → List PR} (hK : ∀ l o r, Together o r → Together (K1 l o) (K2 l r)) : ∀ (l : List PT) {o r : List PR}, Together o r → Together (l.foldl (stepN addU K1) o) (l.foldl (stepN putR K2) r)
  | [], _, _, h => h
  | p :: l, o, r, h => by
    refine Together.parts hK l (Together.cases hK _ ?_)
    split
    · exact h.add _
    · exact h
end Go.Proofs.YtjldgcpmdcoejaaGreatDoor

namespace Go.Proofs.YtjldgcpmdcoejaaGreatDoor
open Go.RowKit

/-- Cases that are the same. -/
def sameC (K : List PT → List PT → Bool) : List CT → List CT → Bool
  | [], [] => true
  | c :: cs, d :: ds => decide (c.1 = d.1) && K c.2 d.2 && sameC K cs ds
  | _, _ => false
/-- Two parts that are the same. -/
def sameP (K : List PT → List PT → Bool) (p q : PT) : Bool :=
  decide (p.k = q.k) && decide (p.tx = q.tx) && decide (p.nm = q.nm) && decide (p.ty = q.ty) && decide (p.st = q.st) && decide (p.off = q.off) && sameC K p.cs q.cs
def sameL (K : List PT → List PT → Bool) : List PT → List PT → Bool
  | [], [] => true
  | p :: a, q :: b => sameP K p q && sameL K a b
  | _, _ => false
def sameF : Nat → List PT → List PT → Bool
  | 0, _, _ => true
  | n + 1, a, b => sameL (sameF n) a b
theorem sameC_refl {K : List PT → List PT → Bool} (h : ∀ l, K l l = true) : ∀ cs, sameC K cs cs = true
  | [] => rfl
  | c :: cs => by simp [sameC, h c.2, sameC_refl h cs]
theorem sameL_refl {K : List PT → List PT → Bool} (h : ∀ l, K l l = true) : ∀ l, sameL K l l = true
  | [] => rfl
  | p :: l => by simp [sameL, sameP, sameC_refl h p.cs, sameL_refl h l]
theorem same_refl : ∀ n l, sameF n l l = true
  | 0, _ => rfl
  | n + 1, l => sameL_refl (same_refl n) l
theorem sameC_len {K : List PT → List PT → Bool} : ∀ {a b : List CT}, a.length ≠ b.length → sameC K a b = false
  | [], [], h => absurd rfl h
  | [], _ :: _, _ => rfl
  | _ :: _, [], _ => rfl
  | c :: cs, d :: ds, h => by simp [sameC, sameC_len (K := K) (a := cs) (b := ds) (by simpa using h)]
theorem sameL_len {K : List PT → List PT → Bool} : ∀ {a b : List PT}, a.length ≠ b.length → sameL K a b = false
  | [], [], h => absurd rfl h
  | [], _ :: _, _ => rfl
  | _ :: _, [], _ => rfl
  | c :: cs, d :: ds, h => by simp [sameL, sameL_len (K := K) (a := cs) (b := ds) (by simpa using h)]
theorem sameC_drop {K : List PT → List PT → Bool} {a b : List CT} {i : Nat} {c d : CT} (h1 : a[i]? = some c) (h2 : b[i]? = some d) : sameC K (a.drop i) (b.drop i) = (decide (c.1 = d.1) && K c.2 d.2 && sameC K (a.drop (i + 1)) (b.drop (i + 1))) := by
  obtain ⟨g1, rfl⟩ := List.getElem?_eq_some_iff.1 h1
  obtain ⟨g2, rfl⟩ := List.getElem?_eq_some_iff.1 h2
  rw [List.drop_eq_getElem_cons g1, List.drop_eq_getElem_cons g2]
  rfl
theorem sameL_drop {K : List PT → List PT → Bool} {a b : List PT} {i : Nat} {c d : PT} (h1 : a[i]? = some c) (h2 : b[i]? = some d) : sameL K (a.drop i) (b.drop i) = (sameP K c d && sameL K (a.drop (i + 1)) (b.drop (i + 1))) := by
  obtain ⟨g1, rfl⟩ := List.getElem?_eq_some_iff.1 h1
  obtain ⟨g2, rfl⟩ := List.getElem?_eq_some_iff.1 h2
  rw [List.drop_eq_getElem_cons g1, List.drop_eq_getElem_cons g2]
  rfl

/-- All that r asks, s asks: the keys, and something where something is asked. -/
def Over (r s : List PR) : Prop := ∀ q ∈ r, ∃ p ∈ s, p.1 = q.1 ∧ (q.2 ≠ ⟨#[]⟩ → p.2 ≠ ⟨#[]⟩)
/-- All that r asks, s asks, word for word. -/
def Stays (r s : List PR) : Prop := ∀ q ∈ r, ∃ p ∈ s, p.1 = q.1 ∧ (q.2 ≠ ⟨#[]⟩ → p.2 = q.2)
theorem mem_putR {p q : PR} : ∀ {r : List PR}, Rise r → (q ∈ putR r p ↔ if ∃ x ∈ r, x.1 = p.1 then ∃ x ∈ r, q = updB p x else q = p ∨ q ∈ r) := by
  intro r hr
  by_cases h : ∃ x ∈ r, x.1 = p.1
  · rw [if_pos h, putR_mem hr (by obtain ⟨x, hx, e⟩ := h; rw [← e]; exact List.mem_map_of_mem hx), List.mem_map]
    constructor
    · rintro ⟨x, hx, rfl⟩; exact ⟨x, hx, rfl⟩
    · rintro ⟨x, hx, rfl⟩; exact ⟨x, hx, rfl⟩
  · rw [if_neg h, (putR_not fun hm => h (by obtain ⟨x, hx, e⟩ := List.mem_map.1 hm; exact ⟨x, hx, e⟩)).mem_iff, List.mem_cons]
theorem Stays.put {r s : List PR} (hs : Rise s) (h : Stays r s) (p : PR) : Stays r (putR s p) := fun q hq => by
  obtain ⟨x, hx, e1, e2⟩ := h q hq
  by_cases hp : ∃ y ∈ s, y.1 = p.1
  · refine ⟨updB p x, (mem_putR hs).2 (by rw [if_pos hp]; exact ⟨x, hx, rfl⟩), by rw [updB_key, e1], fun hne => ?_⟩
    have := e2 hne
    unfold updB
    split
    · simp only
      rw [if_neg (by rw [this]; exact hne), this]
    · exact this
  · exact ⟨x, (mem_putR hs).2 (by rw [if_neg hp]; exact .inr hx), e1, e2⟩
theorem Over.put {r s : List PR} (hr : Rise r) (hs : Rise s) (h : Over r s) (p : PR) : Over (putR r p) (putR s p) := fun q hq => by
  rw [mem_putR hr] at hq
  have new : ∃ x ∈ putR s p, x.1 = p.1 ∧ (p.2 ≠ ⟨#[]⟩ → x.2 ≠ ⟨#[]⟩) := by
    by_cases hp : ∃ y ∈ s, y.1 = p.1
    · obtain ⟨y, hy, e⟩ := hp
      refine ⟨updB p y, (mem_putR hs).2 (by rw [if_pos ⟨y, hy, e⟩]; exact ⟨y, hy, rfl⟩), by rw [updB_key, e], fun hne => ?_⟩
      unfold updB
      rw [if_pos e]
      simp only
      split
      · exact hne
      · assumption
    · exact ⟨p, (mem_putR hs).2 (by rw [if_neg hp]; exact .inl rfl), rfl, fun h => h⟩
  have old : ∀ x ∈ r, ∃ y ∈ putR s p, y.1 = x.1 ∧ (x.2 ≠ ⟨#[]⟩ → y.2 ≠ ⟨#[]⟩) := fun x hx => by
    obtain ⟨y, hy, e1, e2⟩ := h x hx
    by_cases hp : ∃ y ∈ s, y.1 = p.1
    · refine ⟨updB p y, (mem_putR hs).2 (by rw [if_pos hp]; exact ⟨y, hy, rfl⟩), by rw [updB_key, e1], fun hne => ?_⟩
      unfold updB
      split
      · simp only
        split
        · rename_i h2; exact absurd h2 (e2 hne)
        · exact e2 hne
      · exact e2 hne
    · exact ⟨y, (mem_putR hs).2 (by rw [if_neg hp]; exact .inr hy), e1, e2⟩
  split at hq
  · obtain ⟨x, hx, rfl⟩ := hq
    by_cases hk : x.1 = p.1
    · by_cases h2 : x.2 = ⟨#[]⟩
      · obtain ⟨y, hy, e1, e2⟩ := new
        refine ⟨y, hy, by rw [updB_key, hk, e1], fun hne => e2 ?_⟩
        unfold updB at hne
        rw [if_pos hk, if_pos h2] at hne
        exact hne
      · obtain ⟨y, hy, e1, e2⟩ := old x hx
        exact ⟨y, hy, by rw [updB_key, e1], fun _ => e2 h2⟩
    · rw [updB_ne hk]
      exact old x hx
  · rcases hq with rfl | hq
    · exact new
    · exact old q hq
/-- Keys that are asked are those of r or of s. -/
def Within (t r s : List PR) : Prop := ∀ q ∈ t, (∃ p ∈ r, p.1 = q.1) ∨ ∃ p ∈ s, p.1 = q.1
theorem Within.put {t r s : List PR} (hs : Rise s) (h : Within t r s) (p : PR) : Within (putR t p) r (putR s p) := fun q hq => by
  have new : ∃ x ∈ putR s p, x.1 = p.1 := by
    by_cases hp : ∃ y ∈ s, y.1 = p.1
    · obtain ⟨y, hy, e⟩ := hp
      exact ⟨updB p y, (mem_putR hs).2 (by rw [if_pos ⟨y, hy, e⟩]; exact ⟨y, hy, rfl⟩), by rw [updB_key, e]⟩
    · exact ⟨p, (mem_putR hs).2 (by rw [if_neg hp]; exact .inl rfl), rfl⟩
  have old : ∀ y ∈ s, ∃ x ∈ putR s p, x.1 = y.1 := fun y hy => by
    by_cases hp : ∃ y ∈ s, y.1 = p.1
    · exact ⟨updB p y, (mem_putR hs).2 (by rw [if_pos hp]; exact ⟨y, hy, rfl⟩), by rw [updB_key]⟩
    · exact ⟨y, (mem_putR hs).2 (by rw [if_neg hp]; exact .inr hy), rfl⟩
  rcases putR_keys hq with e | ⟨y, hy, e⟩
  · obtain ⟨x, hx, e2⟩ := new
    exact .inr ⟨x, hx, by rw [e2, e]⟩
  · rcases h y hy with ⟨x, hx, e2⟩ | ⟨x, hx, e2⟩
    · exact .inl ⟨x, hx, by rw [e2, e]⟩
    · obtain ⟨z, hz, e3⟩ := old x hx
      exact .inr ⟨z, hz, by rw [e3, e2, e]⟩
/-- What holds of the names so far: t of both, r of the first, s of the second. -/
def Parted (t r s : List PR) : Prop := Rise t ∧ Rise s ∧ Stays r t ∧ Over s t ∧ Within t r s
theorem Parted.put {t r s : List PR} (h : Parted t r s) (p : PR) : Parted (putR t p) r (putR s p) :=
  ⟨h.1.put, h.2.1.put, h.2.2.1.put h.1 p, h.2.2.2.1.put h.2.1 h.1 p, h.2.2.2.2.put h.2.1 p⟩
theorem Parted.cases {K : List PT → List PR → List PR} {r : List PR} (hK : ∀ l t s, Parted t r s → Parted (K l t) r (K l s)) : ∀ (cs : List CT) {t s : List PR}, Parted t r s → Parted (cs.foldl (stepC K) t) r (cs.foldl (stepC K) s)
  | [], _, _, h => h
  | c :: cs, _, _, h => Parted.cases hK cs (hK c.2 _ _ h)
theorem Parted.parts {K : List PT → List PR → List PR} {r : List PR} (hK : ∀ l t s, Parted t r s → Parted (K l t) r (K l s)) : ∀ (l : List PT) {t s : List PR}, Parted t r s → Parted (l.foldl (stepN putR K) t) r (l.foldl (stepN putR K) s)
  | [], _, _, h => h
  | p :: l, t, s, h => by
    refine Parted.parts hK l (Parted.cases hK _ ?_)
    split
    · exact h.put _
    · exact h
end Go.Proofs.YtjldgcpmdcoejaaGreatDoor

namespace Go.Proofs.YtjldgcpmdcoejaaGreatDoor
open Go.RowKit

/-- message.Same, of trees n deep. -/
def SmC (n : Nat) : Prop := ∀ (a b : List PT) (S T : Nat → Prop) (va vb : Value) (w : World), Lies n S w va a → Lies n T w vb b → bulkF n a ≤ 1000000000 → bulkF n b ≤ 1000000000 →
  Calls Tryz.prog 19 #[va, vb] w fun e w' => e = .returned (.bool (sameF n a b)) ∧ Keep [] w w'
set_option maxRecDepth 100000 in
set_option maxHeartbeats 1000000 in
/-- The closure on two cases. -/
theorem same2_any (n : Nat) (ih : SmC n) (c d : CT) (S T : Nat → Prop) (pv qv : Value) (w : World) (hc : Lies n S w pv c.2) (hd : Lies n T w qv d.2) (hb : bulkF n c.2 ≤ 1000000000) (hb2 : bulkF n d.2 ≤ 1000000000) :
    Calls Tryz.prog 41 #[.agg #[.string c.1, pv], .agg #[.string d.1, qv]] w fun e w' => e = .returned (.bool (decide (c.1 = d.1) && sameF n c.2 d.2)) ∧ Keep [] w w' := by
  obtain ⟨A1, m1, k1, rfl⟩ := hc.form
  obtain ⟨A2, m2, k2, rfl⟩ := hd.form
  have hbe := bytes_beq c.1 d.1
  have HIH : ∀ W, Keep [] w W → Hid (Calls Tryz.prog 19 #[.slice A1 m1 k1, .slice A2 m2 k2] W fun e w' => e = .returned (.bool (sameF n c.2 d.2)) ∧ Keep [] W w') := fun W hW => ih c.2 d.2 S T _ _ W (hc.keep hW (by simp)) (hd.keep hW (by simp)) hb hb2
  clear hc hd ih
  generalize sameF n c.2 d.2 = sr at *
  have hk2 : Keep [] w ((w.alloc (.cells #[.string c.1, .slice A1 m1 k1] 51)).alloc (.cells #[.string d.1, .slice A2 m2 k2] 51)) := ((Keep.refl _ _).alloc _).alloc _
  have HK2 := Lib.hid hk2
  clear hk2
  by_cases he : c.1 = d.1
  · rw [decide_eq_true he] at hbe ⊢
    clear he
    go_enter Tryz.func41, Tryz.ntmps41
    go_wp2_with (go_at_call 19; refine (HIH _ HK2.out).out.mono ?_; rintro e w5 ⟨rfl, hk5⟩; have HK5 := Lib.hid hk5; clear hk5)
    go_ret
    exact ⟨by simp, HK2.out.nil HK5.out⟩
  · rw [decide_eq_false he] at hbe ⊢
    clear he
    go_enter Tryz.func41, Tryz.ntmps41
    go_wp2
    go_ret
    exact ⟨by simp, HK2.out⟩
set_option maxRecDepth 100000 in
set_option maxHeartbeats 1000000 in
/-- slices.EqualFunc over cases. -/
theorem eqCase_any (n : Nat) (ih : SmC n) (cs ds : List CT) (S T : Nat → Prop) (cv dv : Value) (w : World) (hc : LiesC n S w cv cs) (hd : LiesC n T w dv ds) (hb : bulkC (bulkF n) cs ≤ 1000000000) (hb2 : bulkC (bulkF n) ds ≤ 1000000000) :
    Calls Tryz.prog 40 #[cv, dv, .func (.func 41) #[] #[]] w fun e w' => e = .returned (.bool (sameC (sameF n) cs ds)) ∧ Keep [] w w' := by
  have hK : ∀ args w, (callFunc 41 args).run Tryz.prog w = .ok (.enter 41 args) w := enters_of Tryz.func41 (by kernel_rfl) rfl
  obtain ⟨A1, k1, rfl, _, hat1⟩ := liesC_open hc
  obtain ⟨A2, k2, rfl, _, hat2⟩ := liesC_open hd
  have hl1 := bulkC_len (bulkF n) cs
  have hl2 := bulkC_len (bulkF n) ds
  have HAT1 := Lib.hid hat1
  have HAT2 := Lib.hid hat2
  have HIH : Hid (SmC n) := ih
  have HB1 := Lib.hid hb
  have HB2 := Lib.hid hb2
  have hll1 : cs.length ≤ 1000000000 := by omega
  have hll2 : ds.length ≤ 1000000000 := by omega
  clear hc hd hat1 hat2 ih hb hb2 hl1 hl2
  by_cases hl : cs.length = ds.length
  case neg =>
    have HR : Hid (sameC (sameF n) cs ds = false) := sameC_len hl
    have hne : ((cs.length : Int) != ds.length) = true := by simp; omega
    go_enter Tryz.func40, Tryz.ntmps40
    go_wp2
    go_ret
    exact ⟨by rw [HR.out]; rfl, Keep.refl _ _⟩
  obtain ⟨RR, hRR⟩ : ∃ RR, sameC (sameF n) cs ds = RR := ⟨_, rfl⟩
  rw [hRR]
  have HRR := Lib.hid hRR
  have HL := Lib.hid hl
  have hne : ((cs.length : Int) != ds.length) = false := by simp; omega
  clear hRR hl
  go_enter Tryz.func40, Tryz.ntmps40
  go_wp2
  go_loopw [17] (fun i wr => ∃ m : Nat, m ≤ cs.length ∧ i = .int .i64 m ∧ Keep [] w wr ∧ sameC (sameF n) (cs.drop m) (ds.drop m) = RR) (fun i _ => cs.length - (intOf i).toNat)
  case atStart => exact ⟨0, Nat.zero_le _, rfl, Keep.refl _ _, HRR.out⟩
  case round =>
    obtain ⟨m, hm, rfl, hK1, hF⟩ := hrel
    have HK1 := Lib.hid hK1
    have HF := Lib.hid hF
    clear hF
    by_cases hlt : m < cs.length
    · obtain ⟨c, hc⟩ : ∃ c, cs[m]? = some c := ⟨_, List.getElem?_eq_getElem hlt⟩
      obtain ⟨d, hd⟩ : ∃ d, ds[m]? = some d := ⟨_, List.getElem?_eq_getElem (by have := HL.out; omega)⟩
      have hlt2 : m < ds.length := by have := HL.out; omega
      obtain ⟨b1, o1, pv, rfl, hb1, e1, e2, hLc⟩ := HAT1.out m c hc
      obtain ⟨b2, o2, qv, rfl, hb2, g1, g2, hLd⟩ := HAT2.out m d hd
      replace e1 := (hK1.cell (p := ⟨b1, o1 + m * 2, none⟩) hb1 (by simp)).trans e1
      replace e2 := (hK1.cell (p := ⟨b1, o1 + m * 2 + 1, none⟩) hb1 (by simp)).trans e2
      replace g1 := (hK1.cell (p := ⟨b2, o2 + m * 2, none⟩) hb2 (by simp)).trans g1
      replace g2 := (hK1.cell (p := ⟨b2, o2 + m * 2 + 1, none⟩) hb2 (by simp)).trans g2
      have hbr1 := Nat.lt_of_lt_of_le hb1 hK1.size
      have hbr2 := Nat.lt_of_lt_of_le hb2 hK1.size
      obtain ⟨Ap, mp, kp, rfl⟩ := hLc.form
      obtain ⟨Aq, mq, kq, rfl⟩ := hLd.form
      have hbc := bulkC_at (bulkF n) cs m c hc
      have hbd := bulkC_at (bulkF n) ds m d hd
      have hbt := HB1.out
      have hbt2 := HB2.out
      have HC : ∀ W, Keep [] wr W → Hid (Calls Tryz.prog 41 #[.agg #[.string c.1, .slice Ap mp kp], .agg #[.string d.1, .slice Aq mq kq]] W fun e w' => e = .returned (.bool (decide (c.1 = d.1) && sameF n c.2 d.2)) ∧ Keep [] W w') := fun W hW => same2_any n HIH.out c d S T _ _ W ((hLc.keep hK1 (by simp)).keep hW (by simp)) ((hLd.keep hK1 (by simp)).keep hW (by simp)) (by omega) (by omega)
      have hF2 := HF.out
      rw [sameC_drop hc hd] at hF2
      have c2 : (wr.alloc (.cells #[.string c.1, .slice Ap mp kp] 51)).cell? ⟨b2, o2 + m * 2, none⟩ = some (.string d.1) := (((Keep.refl [] wr).alloc _).cell (p := ⟨b2, o2 + m * 2, none⟩) hbr2 (by simp)).trans g1
      have c3 : (wr.alloc (.cells #[.string c.1, .slice Ap mp kp] 51)).cell? ⟨b2, o2 + m * 2 + 1, none⟩ = some (.slice Aq mq kq) := (((Keep.refl [] wr).alloc _).cell (p := ⟨b2, o2 + m * 2 + 1, none⟩) hbr2 (by simp)).trans g2
      have hk3 : Keep [] wr ((wr.alloc (.cells #[.string c.1, .slice Ap mp kp] 51)).alloc (.cells #[.string d.1, .slice Aq mq kq] 51)) := ((Keep.refl _ _).alloc _).alloc _
      have HK3 := Lib.hid hk3
      clear hLc hLd hc hd hbc hbd hbt hbt2 hK1 hk3
      generalize sameF n c.2 d.2 = sr at *
      generalize (decide (c.1 = d.1)) = sk at *
      generalize hrest : sameC (sameF n) (cs.drop (m + 1)) (ds.drop (m + 1)) = rest at *
      have HREST := Lib.hid hrest
      have HF2 := Lib.hid hF2
      clear hrest hF2
      cases hs : (sk && sr)
      · rw [hs] at HC HF2
        clear hs
        go_wp2_with (go_at_fn 41; refine (HC _ HK3.out).out.mono ?_; rintro e w5 ⟨rfl, hk5⟩; have HK5 := Lib.hid hk5; clear hk5)
        go_ret
        exact ⟨by rw [← HF2.out]; rfl, (HK1.out.nil HK3.out).nil HK5.out⟩
      · rw [hs] at HC HF2
        clear hs
        go_wp2_with (go_at_fn 41; refine (HC _ HK3.out).out.mono ?_; rintro e w5 ⟨rfl, hk5⟩; have HK5 := Lib.hid hk5; clear hk5)
        go_roundw
        case rel => exact ⟨m + 1, by omega, by go_num, (HK1.out.nil HK3.out).nil HK5.out, by rw [HREST.out, ← HF2.out]; rfl⟩
        case measure => simp [intOf]; omega
    · obtain rfl : m = cs.length := by omega
      have hF := HF.out
      rw [List.drop_length, HL.out, List.drop_length] at hF
      have HF2 := Lib.hid hF
      clear hF
      go_wp2
      go_ret
      exact ⟨by rw [← HF2.out]; rfl, HK1.out⟩
end Go.Proofs.YtjldgcpmdcoejaaGreatDoor

namespace Go.Proofs.YtjldgcpmdcoejaaGreatDoor
open Go.RowKit

theorem sameP_l (K : List PT → List PT → Bool) (p q : PT) : sameP K p q = ((p.k == q.k) && (p.tx.toList == q.tx.toList) && (p.nm.toList == q.nm.toList) && (p.ty.toList == q.ty.toList) && (p.st.toList == q.st.toList) && (p.off == q.off) && sameC K p.cs q.cs) := by
  unfold sameP
  rw [bytes_beq, bytes_beq, bytes_beq, bytes_beq]
  have h1 : (p.k == q.k) = decide (p.k = q.k) := by rw [Bool.eq_iff_iff]; simp
  have h2 : (p.off == q.off) = decide (p.off = q.off) := by rw [Bool.eq_iff_iff]; simp
  rw [h1, h2]
set_option maxRecDepth 100000 in
set_option maxHeartbeats 4000000 in
/-- The closure on two parts. -/
theorem same1_any (n : Nat) (ih : SmC n) (p q : PT) (S T : Nat → Prop) (A1 A2 : Option Addr) (k1 k2 : Nat) (w : World) (hc : LiesC n S w (.slice A1 p.cs.length k1) p.cs) (hd : LiesC n T w (.slice A2 q.cs.length k2) q.cs) (hb : bulkC (bulkF n) p.cs ≤ 1000000000) (hb2 : bulkC (bulkF n) q.cs ≤ 1000000000) :
    Calls Tryz.prog 39 #[.agg #[.int .i64 p.k, .string p.tx, .string p.nm, .string p.ty, .string p.st, .int .i64 p.off, .slice A1 p.cs.length k1], .agg #[.int .i64 q.k, .string q.tx, .string q.nm, .string q.ty, .string q.st, .int .i64 q.off, .slice A2 q.cs.length k2]] w fun e w' => e = .returned (.bool (sameP (sameF n) p q)) ∧ Keep [] w w' := by
  rw [sameP_l]
  have HIH : ∀ W, Keep [] w W → Hid (Calls Tryz.prog 40 #[.slice A1 p.cs.length k1, .slice A2 q.cs.length k2, .func (.func 41) #[] #[]] W fun e w' => e = .returned (.bool (sameC (sameF n) p.cs q.cs)) ∧ Keep [] W w') := fun W hW => eqCase_any n ih p.cs q.cs S T _ _ W (hc.keep hW (by simp)) (hd.keep hW (by simp)) hb hb2
  clear hc hd ih hb hb2
  generalize sameC (sameF n) p.cs q.cs = sr at *
  generalize p.cs.length = l1 at *
  generalize q.cs.length = l2 at *
  have hk2 : Keep [] w ((w.alloc (.cells #[.int .i64 p.k, .string p.tx, .string p.nm, .string p.ty, .string p.st, .int .i64 p.off, .slice A1 l1 k1] 47)).alloc (.cells #[.int .i64 q.k, .string q.tx, .string q.nm, .string q.ty, .string q.st, .int .i64 q.off, .slice A2 l2 k2] 47)) := ((Keep.refl _ _).alloc _).alloc _
  have HK2 := Lib.hid hk2
  clear hk2
  cases h0 : (p.k == q.k)
  case false =>
    go_enter Tryz.func39, Tryz.ntmps39
    go_wp2
    go_ret
    exact ⟨by simp, HK2.out⟩
  cases h1 : (p.tx.toList == q.tx.toList)
  case false =>
    go_enter Tryz.func39, Tryz.ntmps39
    go_wp2
    go_ret
    exact ⟨by simp, HK2.out⟩
  cases h2 : (p.nm.toList == q.nm.toList)
  case false =>
    go_enter Tryz.func39, Tryz.ntmps39
    go_wp2
    go_ret
    exact ⟨by simp, HK2.out⟩
  cases h3 : (p.ty.toList == q.ty.toList)
  case false =>
    go_enter Tryz.func39, Tryz.ntmps39
    go_wp2
    go_ret
    exact ⟨by simp, HK2.out⟩
  cases h4 : (p.st.toList == q.st.toList)
  case false =>
    go_enter Tryz.func39, Tryz.ntmps39
    go_wp2
    go_ret
    exact ⟨by simp, HK2.out⟩
  cases h5 : (p.off == q.off)
  case false =>
    go_enter Tryz.func39, Tryz.ntmps39
    go_wp2
    go_ret
    exact ⟨by simp, HK2.out⟩
  go_enter Tryz.func39, Tryz.ntmps39
  go_wp2_with (go_at_call 40; refine (HIH _ HK2.out).out.mono ?_; rintro e w5 ⟨rfl, hk5⟩; have HK5 := Lib.hid hk5; clear hk5)
  go_ret
  exact ⟨by simp, HK2.out.nil HK5.out⟩
set_option maxRecDepth 100000 in
set_option maxHeartbeats 4000000 in
/-- slices.EqualFunc over parts. -/
theorem eqPart_any (n : Nat) (ih : SmC n) (a b : List PT) (S T : Nat → Prop) (va vb : Value) (w : World) (hc : Lies (n + 1) S w va a) (hd : Lies (n + 1) T w vb b) (hb : bulkF (n + 1) a ≤ 1000000000) (hb2 : bulkF (n + 1) b ≤ 1000000000) :
    Calls Tryz.prog 38 #[va, vb, .func (.func 39) #[] #[]] w fun e w' => e = .returned (.bool (sameF (n + 1) a b)) ∧ Keep [] w w' := by
  have hK : ∀ args w, (callFunc 39 args).run Tryz.prog w = .ok (.enter 39 args) w := enters_of Tryz.func39 (by kernel_rfl) rfl
  obtain ⟨A1, k1, rfl, _, hat1⟩ := lies_open hc
  obtain ⟨A2, k2, rfl, _, hat2⟩ := lies_open hd
  have hl1 := bulkL_len (bulkF n) a
  have hl2 := bulkL_len (bulkF n) b
  simp only [bulkF] at hb hb2
  have HAT1 := Lib.hid hat1
  have HAT2 := Lib.hid hat2
  have HIH : Hid (SmC n) := ih
  have HB1 := Lib.hid hb
  have HB2 := Lib.hid hb2
  have hll1 : a.length ≤ 1000000000 := by omega
  have hll2 : b.length ≤ 1000000000 := by omega
  clear hc hd hat1 hat2 ih hb hb2 hl1 hl2
  by_cases hl : a.length = b.length
  case neg =>
    have HR : Hid (sameF (n + 1) a b = false) := sameL_len hl
    have hne : ((a.length : Int) != b.length) = true := by simp; omega
    go_enter Tryz.func38, Tryz.ntmps38
    go_wp2
    go_ret
    exact ⟨by rw [HR.out]; rfl, Keep.refl _ _⟩
  obtain ⟨RR, hRR⟩ : ∃ RR, sameF (n + 1) a b = RR := ⟨_, rfl⟩
  rw [hRR]
  have HRR : Hid (sameL (sameF n) a b = RR) := hRR
  have HL := Lib.hid hl
  have hne : ((a.length : Int) != b.length) = false := by simp; omega
  clear hRR hl
  go_enter Tryz.func38, Tryz.ntmps38
  go_wp2
  go_loopw [17] (fun i wr => ∃ m : Nat, m ≤ a.length ∧ i = .int .i64 m ∧ Keep [] w wr ∧ sameL (sameF n) (a.drop m) (b.drop m) = RR) (fun i _ => a.length - (intOf i).toNat)
  case atStart => exact ⟨0, Nat.zero_le _, rfl, Keep.refl _ _, HRR.out⟩
  case round =>
    obtain ⟨m, hm, rfl, hK1, hF⟩ := hrel
    have HK1 := Lib.hid hK1
    have HF := Lib.hid hF
    clear hF
    by_cases hlt : m < a.length
    · obtain ⟨p, hp⟩ : ∃ p, a[m]? = some p := ⟨_, List.getElem?_eq_getElem hlt⟩
      obtain ⟨q, hq⟩ : ∃ q, b[m]? = some q := ⟨_, List.getElem?_eq_getElem (by have := HL.out; omega)⟩
      have hlt2 : m < b.length := by have := HL.out; omega
      obtain ⟨b1, o1, cv, rfl, hb1, hP, hLc⟩ := HAT1.out m p hp
      obtain ⟨b2, o2, dv, rfl, hb2, hQ, hLd⟩ := HAT2.out m q hq
      obtain ⟨A1, k1, rfl⟩ := hLc.formL
      obtain ⟨A2, k2, rfl⟩ := hLd.formL
      obtain ⟨a0, a1, a2, a3, a4, a5, a6⟩ := hP.keep hK1 hb1
      have hbr1 := Nat.lt_of_lt_of_le hb1 hK1.size
      have hbr2 := Nat.lt_of_lt_of_le hb2 hK1.size
      obtain ⟨g0, g1, g2, g3, g4, g5, g6⟩ := (hQ.keep hK1 hb2).keep ((Keep.refl [] wr).alloc (.cells #[.int .i64 p.k, .string p.tx, .string p.nm, .string p.ty, .string p.st, .int .i64 p.off, .slice A1 p.cs.length k1] 47)) hbr2
      have hbp := bulkL_at (bulkF n) a m p hp
      have hbq := bulkL_at (bulkF n) b m q hq
      have hbt := HB1.out
      have hbt2 := HB2.out
      have HC : ∀ W, Keep [] wr W → Hid (Calls Tryz.prog 39 #[.agg #[.int .i64 p.k, .string p.tx, .string p.nm, .string p.ty, .string p.st, .int .i64 p.off, .slice A1 p.cs.length k1], .agg #[.int .i64 q.k, .string q.tx, .string q.nm, .string q.ty, .string q.st, .int .i64 q.off, .slice A2 q.cs.length k2]] W fun e w' => e = .returned (.bool (sameP (sameF n) p q)) ∧ Keep [] W w') := fun W hW => same1_any n HIH.out p q S T A1 A2 k1 k2 W ((hLc.keep hK1 (by simp)).keep hW (by simp)) ((hLd.keep hK1 (by simp)).keep hW (by simp)) (by omega) (by omega)
      have hF2 := HF.out
      rw [sameL_drop hp hq] at hF2
      have hk3 : Keep [] wr ((wr.alloc (.cells #[.int .i64 p.k, .string p.tx, .string p.nm, .string p.ty, .string p.st, .int .i64 p.off, .slice A1 p.cs.length k1] 47)).alloc (.cells #[.int .i64 q.k, .string q.tx, .string q.nm, .string q.ty, .string q.st, .int .i64 q.off, .slice A2 q.cs.length k2] 47)) := ((Keep.refl _ _).alloc _).alloc _
      have HK3 := Lib.hid hk3
      clear hLc hLd hp hq hbp hbq hbt hbt2 hK1 hk3 hP hQ
      generalize sameP (sameF n) p q = sr at *
      generalize hrest : sameL (sameF n) (a.drop (m + 1)) (b.drop (m + 1)) = rest at *
      have HREST := Lib.hid hrest
      have HF2 := Lib.hid hF2
      clear hrest hF2
      cases sr
      · go_wp2_with (go_at_fn 39; refine (HC _ HK3.out).out.mono ?_; rintro e w5 ⟨rfl, hk5⟩; have HK5 := Lib.hid hk5; clear hk5)
        go_ret
        exact ⟨by rw [← HF2.out]; rfl, (HK1.out.nil HK3.out).nil HK5.out⟩
      · go_wp2_with (go_at_fn 39; refine (HC _ HK3.out).out.mono ?_; rintro e w5 ⟨rfl, hk5⟩; have HK5 := Lib.hid hk5; clear hk5)
        go_roundw
        case rel => exact ⟨m + 1, by omega, by go_num, (HK1.out.nil HK3.out).nil HK5.out, by rw [HREST.out, ← HF2.out]; rfl⟩
        case measure => simp [intOf]; omega
    · obtain rfl : m = a.length := by omega
      have hF := HF.out
      rw [List.drop_length, HL.out, List.drop_length] at hF
      have HF2 := Lib.hid hF
      clear hF
      go_wp2
      go_ret
      exact ⟨by rw [← HF2.out]; rfl, HK1.out⟩
set_option maxRecDepth 100000 in
set_option maxHeartbeats 1000000 in
theorem same_step (n : Nat) (ih : SmC n) : SmC (n + 1) := fun a b S T va vb w ha hb h1 h2 => by
  obtain ⟨A1, m1, k1, rfl⟩ := ha.form
  obtain ⟨A2, m2, k2, rfl⟩ := hb.form
  have HE := Lib.hid (eqPart_any n ih a b S T _ _ w ha hb h1 h2)
  clear ha hb ih h1 h2
  generalize sameF (n + 1) a b = sr at *
  go_enter Tryz.func19, Tryz.ntmps19
  go_wp2_with (go_at_call 38; refine HE.out.mono ?_; rintro e w5 ⟨rfl, hk5⟩; have HK5 := Lib.hid hk5; clear hk5)
  go_ret
  exact ⟨rfl, HK5.out⟩
/-- message.Same. -/
theorem same_any : ∀ n, SmC n
  | 0 => fun _ _ _ _ _ _ _ h => h.elim
  | n + 1 => same_step n (same_any n)
end Go.Proofs.YtjldgcpmdcoejaaGreatDoor
