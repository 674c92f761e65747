/- Plain: names of two lists, one behind the other; sameness of parts. No walk. append of pairs, and of parts, that lie elsewhere, to a slice of the call's own. Walks: vernacularlaw19.small; vernacularref19.Size, Depth. Walks: message.Parse. Walks: form, Print, Check of messages. Walks: wakes of the law of messages; message.Plain. Walks: vernacularlaw19.MessageParts: it answers true. Parts that came in, opened. MessageParts holds, in its second form: the names of two lists, one behind the other, are those of either, for every two lists of parts of bounded bulk. The library's variables as the program's text lays them, tied by the card. -/
import Derived.Test.YtjldgcpmdcoejaaGreatDoorRN1
import Derived.Test.YtjldgcpmdcoejaaGreatDoorPB
import Derived.Laws.AppendOwnNone
import Derived.Test.YtjldgcpmdcoejaaGreatDoorMM
import Derived.Test.YtjldgcpmdcoejaaGreatDoorWCheck
import Derived.Defers
import Derived.Recover
import Derived.Test.YtjldgcpmdcoejaaGreatDoorPU
import Derived.Test.YtjldgcpmdcoejaaGreatDoorPZ
import Derived.Test.YtjldgcpmdcoejaaGreatDoorRM
import Derived.Deep.DeepWitnessRowRef
namespace Go.Proofs.YtjldgcpmdcoejaaGreatDoor
open Go.RowKit

/-- Cases that are the same. -/
def sameC (K : List PT → List PT → Bool) : List CT → List CT → Bool
  | [], [] => true
  | c :: cs, d :: ds => decide (c.1 = d.1) && K c.2 d.2 && sameC K cs ds
  | _, _ => false
/-- Two parts that are the same. -/
def sameP (K : List PT → List PT → Bool) (p q : PT) : Bool :=
  decide (p.k = q.k) && decide (p.tx = q.tx) && decide (p.nm = q.nm) && decide (p.ty = q.ty) && decide (p.st = q.st) && decide (p.off = q.off) && sameC K p.cs q.cs
def sameL (K : List PT → List PT → Bool) : List PT → List PT → Bool
  | [], [] => true
  | p :: a, q :: b => sameP K p q && sameL K a b
  | _, _ => false
def sameF : Nat → List PT → List PT → Bool
  | 0, _, _ => true
  | n + 1, a, b => sameL (sameF n) a b
theorem sameC_refl {K : List PT → List PT → Bool} (h : ∀ l, K l l = true) : ∀ cs, sameC K cs cs = true
  | [] => rfl
  | c :: cs => by simp [sameC, h c.2, sameC_refl h cs]
theorem sameL_refl {K : List PT → List PT → Bool} (h : ∀ l, K l l = true) : ∀ l, sameL K l l = true
  | [] => rfl
  | p :: l => by simp [sameL, sameP, sameC_refl h p.cs, sameL_refl h l]
theorem same_refl : ∀ n l, sameF n l l = true
  | 0, _ => rfl
  | n + 1, l => sameL_refl (same_refl n) l
theorem sameC_len {K : List PT → List PT → Bool} : ∀ {a b : List CT}, a.length ≠ b.length → sameC K a b = false
  | [], [], h => absurd rfl h
  | [], _ :: _, _ => rfl
  | _ :: _, [], _ => rfl
  | c :: cs, d :: ds, h => by simp [sameC, sameC_len (K := K) (a := cs) (b := ds) (by simpa using h)]
theorem sameL_len {K : List PT → List PT → Bool} : ∀ {a b : List PT}, a.length ≠ b.length → sameL K a b = false
  | [], [], h => absurd rfl h
  | [], _ :: _, _ => rfl
  | _ :: _, [], _ => rfl
  | c :: cs, d :: ds, h => by simp [sameL, sameL_len (K := K) (a := cs) (b := ds) (by simpa using h)]
theorem sameC_drop {K : List PT → List PT → Bool} {a b : List CT} {i : Nat} {c d : CT} (h1 : a[i]? = some c) (h2 : b[i]? = some d) : sameC K (a.drop i) (b.drop i) = (decide (c.1 = d.1) && K c.2 d.2 && sameC K (a.drop (i + 1)) (b.drop (i + 1))) := by
  obtain ⟨g1, rfl⟩ := List.getElem?_eq_some_iff.1 h1
  obtain ⟨g2, rfl⟩ := List.getElem?_eq_some_iff.1 h2
  rw [List.drop_eq_getElem_cons g1, List.drop_eq_getElem_cons g2]
  rfl
theorem sameL_drop {K : List PT → List PT → Bool} {a b : List PT} {i : Nat} {c d : PT} (h1 : a[i]? = some c) (h2 : b[i]? = some d) : sameL K (a.drop i) (b.drop i) = (sameP K c d && sameL K (a.drop (i + 1)) (b.drop (i + 1))) := by
  obtain ⟨g1, rfl⟩ := List.getElem?_eq_some_iff.1 h1
  obtain ⟨g2, rfl⟩ := List.getElem?_eq_some_iff.1 h2
  rw [List.drop_eq_getElem_cons g1, List.drop_eq_getElem_cons g2]
  rfl

/-- All that r asks, s asks: the keys, and something where something is asked. -/
def Over (r s : List PR) : Prop := ∀ q ∈ r, ∃ p ∈ s, p.1 = q.1 ∧ (q.2 ≠ ⟨#[]⟩ → p.2 ≠ ⟨#[]⟩)
/-- All that r asks, s asks, word for word. -/
def Stays (r s : List PR) : Prop := ∀ q ∈ r, ∃ p ∈ s, p.1 = q.1 ∧ (q.2 ≠ ⟨#[]⟩ → p.2 = q.2)
theorem mem_putR {p q : PR} : ∀ {r : List PR}, Rise r → (q ∈ putR r p ↔ if ∃ x ∈ r, x.1 = p.1 then ∃ x ∈ r, q = updB p x else q = p ∨ q ∈ r) := by
  intro r hr
  by_cases h : ∃ x ∈ r, x.1 = p.1
  · rw [if_pos h, putR_mem hr (by obtain ⟨x, hx, e⟩ := h; rw [← e]; exact List.mem_map_of_mem hx), List.mem_map]
    constructor
    · rintro ⟨x, hx, rfl⟩; exact ⟨x, hx, rfl⟩
    · rintro ⟨x, hx, rfl⟩; exact ⟨x, hx, rfl⟩
  · rw [if_neg h, (putR_not fun hm => h (by obtain ⟨x, hx, e⟩ := List.mem_map.1 hm; exact ⟨x, hx, e⟩)).mem_iff, List.mem_cons]
theorem Stays.put {r s : List PR} (hs : Rise s) (h : Stays r s) (p : PR) : Stays r (putR s p) := fun q hq => by
  obtain ⟨x, hx, e1, e2⟩ := h q hq
  by_cases hp : ∃ y ∈ s, y.1 = p.1
  · refine ⟨updB p x, (mem_putR hs).2 (by rw [if_pos hp]; exact ⟨x, hx, rfl⟩), by rw [updB_key, e1], fun hne => ?_⟩
    have := e2 hne
    unfold updB
    split
    · simp only
      rw [if_neg (by rw [this]; exact hne), this]
    · exact this
  · exact ⟨x, (mem_putR hs).2 (by rw [if_neg hp]; exact .inr hx), e1, e2⟩
theorem Over.put {r s : List PR} (hr : Rise r) (hs : Rise s) (h : Over r s) (p : PR) : Over (putR r p) (putR s p) := fun q hq => by
  rw [mem_putR hr] at hq
  have new : ∃ x ∈ putR s p, x.1 = p.1 ∧ (p.2 ≠ ⟨#[]⟩ → x.2 ≠ ⟨#[]⟩) := by
    by_cases hp : ∃ y ∈ s, y.1 = p.1
    · obtain ⟨y, hy, e⟩ := hp
      refine ⟨updB p y, (mem_putR hs).2 (by rw [if_pos ⟨y, hy, e⟩]; exact ⟨y, hy, rfl⟩), by rw [updB_key, e], fun hne => ?_⟩
      unfold updB
      rw [if_pos e]
      simp only
      split
      · exact hne
      · assumption
    · exact ⟨p, (mem_putR hs).2 (by rw [if_neg hp]; exact .inl rfl), rfl, fun h => h⟩
  have old : ∀ x ∈ r, ∃ y ∈ putR s p, y.1 = x.1 ∧ (x.2 ≠ ⟨#[]⟩ → y.2 ≠ ⟨#[]⟩) := fun x hx => by
    obtain ⟨y, hy, e1, e2⟩ := h x hx
    by_cases hp : ∃ y ∈ s, y.1 = p.1
    · refine ⟨updB p y, (mem_putR hs).2 (by rw [if_pos hp]; exact ⟨y, hy, rfl⟩), by rw [updB_key, e1], fun hne => ?_⟩
      unfold updB
      split
      · simp only
        split
        · rename_i h2; exact absurd h2 (e2 hne)
        · exact e2 hne
      · exact e2 hne
    · exact ⟨y, (mem_putR hs).2 (by rw [if_neg hp]; exact .inr hy), e1, e2⟩
  split at hq
  · obtain ⟨x, hx, rfl⟩ := hq
    by_cases hk : x.1 = p.1
    · by_cases h2 : x.2 = ⟨#[]⟩
      · obtain ⟨y, hy, e1, e2⟩ := new
        refine ⟨y, hy, by rw [updB_key, hk, e1], fun hne => e2 ?_⟩
        unfold updB at hne
        rw [if_pos hk, if_pos h2] at hne
        exact hne
      · obtain ⟨y, hy, e1, e2⟩ := old x hx
        exact ⟨y, hy, by rw [updB_key, e1], fun _ => e2 h2⟩
    · rw [updB_ne hk]
      exact old x hx
  · rcases hq with rfl | hq
    · exact new
    · exact old q hq
/-- Keys that are asked are those of r or of s. -/
def Within (t r s : List PR) : Prop := ∀ q ∈ t, (∃ p ∈ r, p.1 = q.1) ∨ ∃ p ∈ s, p.1 = q.1
theorem Within.put {t r s : List PR} (hs : Rise s) (h : Within t r s) (p : PR) : Within (putR t p) r (putR s p) := fun q hq => by
  have new : ∃ x ∈ putR s p, x.1 = p.1 := by
    by_cases hp : ∃ y ∈ s, y.1 = p.1
    · obtain ⟨y, hy, e⟩ := hp
      exact ⟨updB p y, (mem_putR hs).2 (by rw [if_pos ⟨y, hy, e⟩]; exact ⟨y, hy, rfl⟩), by rw [updB_key, e]⟩
    · exact ⟨p, (mem_putR hs).2 (by rw [if_neg hp]; exact .inl rfl), rfl⟩
  have old : ∀ y ∈ s, ∃ x ∈ putR s p, x.1 = y.1 := fun y hy => by
    by_cases hp : ∃ y ∈ s, y.1 = p.1
    · exact ⟨updB p y, (mem_putR hs).2 (by rw [if_pos hp]; exact ⟨y, hy, rfl⟩), by rw [updB_key]⟩
    · exact ⟨y, (mem_putR hs).2 (by rw [if_neg hp]; exact .inr hy), rfl⟩
  rcases putR_keys hq with e | ⟨y, hy, e⟩
  · obtain ⟨x, hx, e2⟩ := new
    exact .inr ⟨x, hx, by rw [e2, e]⟩
  · rcases h y hy with ⟨x, hx, e2⟩ | ⟨x, hx, e2⟩
    · exact .inl ⟨x, hx, by rw [e2, e]⟩
    · obtain ⟨z, hz, e3⟩ := old x hx
      exact .inr ⟨z, hz, by rw [e3, e2, e]⟩
/-- What holds of the names so far: t of both, r of the first, s of the second. -/
def Parted (t r s : List PR) : Prop := Rise t ∧ Rise s ∧ Stays r t ∧ Over s t ∧ Within t r s
theorem Parted.put {t r s : List PR} (h : Parted t r s) (p : PR) : Parted (putR t p) r (putR s p) :=
  ⟨h.1.put, h.2.1.put, h.2.2.1.put h.1 p, h.2.2.2.1.put h.2.1 h.1 p, h.2.2.2.2.put h.2.1 p⟩
theorem Parted.cases {K : List PT → List PR → List PR} {r : List PR} (hK : ∀ l t s, Parted t r s → Parted (K l t) r (K l s)) : ∀ (cs : List CT) {t s : List PR}, Parted t r s → Parted (cs.foldl (stepC K) t) r (cs.foldl (stepC K) s)
  | [], _, _, h => h
  | c :: cs, _, _, h => Parted.cases hK cs (hK c.2 _ _ h)
theorem Parted.parts {K : List PT → List PR → List PR} {r : List PR} (hK : ∀ l t s, Parted t r s → Parted (K l t) r (K l s)) : ∀ (l : List PT) {t s : List PR}, Parted t r s → Parted (l.foldl (stepN putR K) t) r (l.foldl (stepN putR K) s)
  | [], _, _, h => h
  | p :: l, t, s, h => by
    refine Parted.parts hK l (Parted.cases hK _ ?_)
    split
    · exact h.put _
    · exact h
theorem Parted.nam {r : List PR} : ∀ (n : Nat) (l : List PT) (t s : List PR), Parted t r s → Parted (namF putR n l t) r (namF putR n l s)
  | 0, _, _, _, h => h
  | n + 1, l, _, _, h => Parted.parts (Parted.nam n) l h
theorem rise_nam (n : Nat) (l : List PT) : Rise (namF putR n l []) := (Together.nam n l [] [] together_nil).2
/-- The names of two lists, one behind the other. -/
theorem names_both (n : Nat) (a b : List PT) : Parted (namF putR (n + 1) (a ++ b) []) (namF putR (n + 1) a []) (namF putR (n + 1) b []) := by
  have e : namF putR (n + 1) (a ++ b) [] = namF putR (n + 1) b (namF putR (n + 1) a []) := by simp only [namF, List.foldl_append]
  rw [e]
  exact Parted.nam (n + 1) b _ [] ⟨rise_nam _ a, List.Pairwise.nil, fun q hq => ⟨q, hq, rfl, fun _ => rfl⟩, (fun q hq => absurd hq List.not_mem_nil), fun q hq => .inl ⟨q, hq, rfl⟩⟩
end Go.Proofs.YtjldgcpmdcoejaaGreatDoor

namespace Go.Proofs.YtjldgcpmdcoejaaGreatDoor
open Go.RowKit

theorem addr_addN (b o j : Nat) : (⟨b, o, none⟩ : Addr).add j = ⟨b, o + j, none⟩ := by unfold Addr.add; split <;> simp_all
theorem pairC_ones : ∀ (l : List PR), ∀ u ∈ pairC l, u.oneCell' = true
  | [], u, h => by simp [pairC] at h
  | x :: l, u, h => by
    simp only [pairC, List.mem_cons] at h
    rcases h with rfl | rfl | h
    · rfl
    · rfl
    · exact pairC_ones l u h
/-- append of pairs. -/
theorem wpList_append_pairs {ops : Array Oper} {rest : List Oper} {o : Oper} {a : Act} {Q : Exit → Act → World → Prop} (hgd : o.guard = none) (s x : Operand)
    (ho : o.op = .call { callee := .builtin .append, args := #[s, x], argTypes := #[41, 41] })
    {w : World} {B B2 : Nat} {v u : Value} {l m : List PR} (hs : a.eval s = v) (hown : OwnP w B v l) (hx : a.eval x = u) (hu : OwnP w B2 u m)
    {r : List PR} (hr : l ++ m = r) (hlen : l.length + m.length ≤ 1000000000) (hB : B ≤ w.heap.size)
    (h : ∀ A' cap' w', OwnP w' B (.slice A' r.length cap') r → Keep v.ownBlock.toList w w' → wpList Tryz.prog ops Q rest (a.put o.dst (.slice A' r.length cap')) w') :
    wpList Tryz.prog ops Q (o :: rest) a w := by
  subst hr
  simp only [List.length_append] at h
  obtain ⟨i0, hi, hz0, hz1, hz2⟩ := info_parts infoPair
  rcases hu.2 with ⟨rfl, h0⟩ | ⟨g, cap, cur, rfl, hBg, hg, h1, h2, h3, h4⟩
  · have hm : m = [] := List.eq_nil_of_length_eq_zero h0
    subst hm
    obtain ⟨A', cap', rfl, _⟩ := hown.form
    refine wpList_append_own_none hgd s x 41 ho B 44 i0 2 Tryz.underlying41 hi _ l.length (pairC l) hs hown hx ?_
    exact h A' cap' w (by rw [List.append_nil]; exact hown) (Keep.refl _ _)
  · refine wpList_append_own _ hgd s x 41 ho B 44 i0 _ 2 32 Tryz.underlying41 hi hz0 hz1 hz2 rfl (by decide) v l.length (pairC l) hs hown ⟨g, 0, none⟩ m.length cap (pairC m) hx (pairC_length m) ?_ (pairC_ones m) (by unfold maxLen; omega) (by omega) hB ?_
    · intro j y hy
      have hj : j < m.length * 2 := by rw [← pairC_length]; exact (List.getElem?_eq_some_iff.1 hy).1
      rw [addr_addN, Nat.zero_add]
      exact (World.ownsRow.cellAt hu j hj).trans hy
    · intro v' w' g1 g2 _
      have hO : OwnP w' B v' (l ++ m) := by
        unfold OwnP
        rw [pairC_append, List.length_append]
        exact g1
      obtain ⟨A', cap', hv', _⟩ := hO.form
      rw [List.length_append] at hv'
      subst hv'
      exact h A' cap' w' hO ((Keep.refl _ w).grown g2 fun k hk => .inl (by simpa using hk))
theorem partC_ones : ∀ (l : List PT) (vs : List Value), (∀ v ∈ vs, v.oneCell' = true) → ∀ u ∈ partC l vs, u.oneCell' = true
  | [], _, _, u, h => by simp [partC] at h
  | _ :: _, [], _, u, h => by simp [partC] at h
  | p :: l, v :: vs, hv, u, h => by
    simp only [partC, List.mem_append] at h
    rcases h with h | h
    · simp only [PT.cells, List.mem_cons, List.mem_nil_iff, or_false] at h
      rcases h with rfl | rfl | rfl | rfl | rfl | rfl | rfl <;> first | rfl | exact hv _ (List.mem_cons_self ..)
    · exact partC_ones l vs (fun x hx => hv x (List.mem_cons_of_mem _ hx)) u h
/-- append of parts. -/
theorem wpList_append_parts {ops : Array Oper} {rest : List Oper} {o : Oper} {a : Act} {Q : Exit → Act → World → Prop} (hgd : o.guard = none) (s x : Operand)
    (ho : o.op = .call { callee := .builtin .append, args := #[s, x], argTypes := #[22, 22] })
    {w : World} {B f : Nat} {S : Nat → Prop} {v u : Value} {l m : List PT} (hs : a.eval s = v) (hown : OwnM f S w B v l) (hx : a.eval x = u) (hu : Lies (f + 1) S w u m) (hnil : ∀ n c, u = .slice none n c → n = 0 ∧ c = 0)
    (hS : ∀ x, S x → x ∉ v.ownBlock.toList) {r : List PT} (hr : l ++ m = r) (hlen : l.length + m.length ≤ 1000000000) (hB : B ≤ w.heap.size)
    (h : ∀ A' cap' w', OwnM f S w' B (.slice A' r.length cap') r → Keep v.ownBlock.toList w w' → wpList Tryz.prog ops Q rest (a.put o.dst (.slice A' r.length cap')) w') :
    wpList Tryz.prog ops Q (o :: rest) a w := by
  subst hr
  simp only [List.length_append] at h
  obtain ⟨i0, hi, hz0, hz1, hz2⟩ := info_parts infoPart
  obtain ⟨vs, hvl, how, hch⟩ := hown
  obtain ⟨us, hul, ⟨A, cap, rfl, h1, h2, h3⟩, hch2⟩ := hu
  cases A with
  | none =>
    obtain ⟨e1, rfl⟩ := hnil _ _ rfl
    have hm : m = [] := List.eq_nil_of_length_eq_zero e1
    subst hm
    obtain ⟨A', cap', rfl, _⟩ := ownM_form (⟨vs, hvl, how, hch⟩ : OwnM f S w B v l)
    refine wpList_append_own_none hgd s x 22 ho B 47 i0 7 Tryz.underlying22 hi _ l.length (partC l vs) hs how hx ?_
    exact h A' cap' w (by rw [List.append_nil]; exact ⟨vs, hvl, how, hch⟩) (Keep.refl _ _)
  | some ad =>
    have hcells : ∀ j y, (partC m us)[j]? = some y → w.cell? (ad.add j) = some y := by
      intro j y hy
      have hne : 0 < m.length := by
        have := (List.getElem?_eq_some_iff.1 hy).1
        rw [partC_length m us hul] at this
        omega
      obtain ⟨b, o', he, _, _, hc⟩ := h3 hne
      obtain rfl := Option.some.inj he
      rw [addr_addN]
      exact hc j y hy
    have hones : ∀ y ∈ partC m us, y.oneCell' = true := partC_ones m us fun y hy => by
      obtain ⟨i, hi⟩ := List.mem_iff_getElem?.1 hy
      have hlt : i < m.length := by rw [← hul]; exact (List.getElem?_eq_some_iff.1 hi).1
      obtain ⟨A2, k2, e⟩ := LiesC.formL (n := f) (S := S) (hch2 i _ y (List.getElem?_eq_getElem hlt) hi)
      rw [e]; rfl
    refine wpList_append_own _ hgd s x 22 ho B 47 i0 _ 7 104 Tryz.underlying22 hi hz0 hz1 hz2 rfl (by decide) v l.length (partC l vs) hs how ad m.length cap (partC m us) hx (partC_length m us hul) hcells hones (by unfold maxLen; omega) (by omega) hB ?_
    intro v' w' g1 g2 _
    have hk : Keep v.ownBlock.toList w w' := (Keep.refl _ w).grown g2 fun k hk => .inl (by simpa using hk)
    have hO : OwnM f S w' B v' (l ++ m) := by
      refine ⟨vs ++ us, by simp [hvl, hul], by rw [partC_append _ _ _ _ hvl, List.length_append]; exact g1, fun i p cv hp hc => ?_⟩
      have key : LiesC f S w cv p.cs := by
        rcases Nat.lt_or_ge i l.length with hh | hh
        · rw [List.getElem?_append_left hh] at hp
          rw [List.getElem?_append_left (by omega)] at hc
          exact hch i p cv hp hc
        · rw [List.getElem?_append_right hh] at hp
          rw [List.getElem?_append_right (by omega), hvl] at hc
          exact hch2 _ p cv hp hc
      exact key.keep hk (fun y hy hc' => hS y hc' hy)
    obtain ⟨A', cap', hv', _⟩ := ownM_form hO
    rw [List.length_append] at hv'
    subst hv'
    exact h A' cap' w' hO hk
/-- An empty slice, made just now. -/
theorem empty_pairs (w : World) (n : Nat) (hn : w.heap.size = n) : OwnP (w.alloc (.cells #[] 44)) n (.slice (some ⟨n, 0, none⟩) 0 0) [] := by
  subst hn
  exact ⟨rfl, .inr ⟨w.heap.size, 0, #[], rfl, Nat.le_refl _, heap_alloc_new w _, Nat.le_refl _, by simp [maxLen], rfl, rfl⟩⟩
theorem empty_parts (w : World) (f : Nat) (S : Nat → Prop) (n : Nat) (hn : w.heap.size = n) : OwnM f S (w.alloc (.cells #[] 47)) n (.slice (some ⟨n, 0, none⟩) 0 0) [] := by
  subst hn
  exact ⟨[], rfl, ⟨rfl, .inr ⟨w.heap.size, 0, #[], rfl, Nat.le_refl _, heap_alloc_new w _, Nat.le_refl _, by simp [maxLen], rfl, rfl⟩⟩, fun i p cv h => by simp at h⟩
end Go.Proofs.YtjldgcpmdcoejaaGreatDoor

namespace Go.Proofs.YtjldgcpmdcoejaaGreatDoor
open Go.RowKit

set_option maxRecDepth 100000 in
set_option maxHeartbeats 4000000 in
/-- vernacularref19.Size. -/
theorem size19_any : ∀ (n : Nat) (l : List PT) (S : Nat → Prop) (v : Value) (w : World), Lies n S w v l → bulkF n l ≤ 1000000000 →
    Calls Tryz.prog 27 #[v] w fun e w' => e = .returned (.int .i64 (sizeF n l)) ∧ w = w'
  | 0, _, _, _, _, h, _ => h.elim
  | n + 1, l, S, v, w, h, hb => by
    obtain ⟨A, cap, rfl, hml, hat⟩ := lies_open h
    have HAT := Lib.hid hat
    have HIH := Lib.hid (size19_any n)
    have hll : l.length ≤ 1000000000 := by have := bulkL_len (bulkF n) l; simp only [bulkF] at hb; omega
    have HB := Lib.hid hb
    clear h hat hml hb
    go_enter Tryz.func27, Tryz.ntmps27
    go_wp2
    go_loop [3, 4] (fun t i => ∃ k : Nat, k ≤ l.length ∧ i = .int .i64 k ∧ t = .int .i64 (l.length + sumL (sizeF n) (l.take k) : Nat)) (fun _ i => l.length - (intOf i).toNat)
    case atStart => exact ⟨0, Nat.zero_le _, rfl, by simp [sumL]⟩
    case round =>
      obtain ⟨k, hk, rfl, rfl⟩ := hrel
      by_cases hlt : k < l.length
      · obtain ⟨p, hp⟩ : ∃ p, l[k]? = some p := ⟨_, List.getElem?_eq_getElem hlt⟩
        obtain ⟨b, o, cv, rfl, hb, ⟨_, _, _, _, _, _, a6⟩, hC⟩ := HAT.out k p hp
        obtain ⟨Ac, cc, rfl, hcm, hcat⟩ := liesC_open hC
        have hS1 : sumL (sizeF n) (l.take (k + 1)) = sumL (sizeF n) (l.take k) + sumC (sizeF n) p.cs := by rw [take_snoc' hp, sumL_append]; simp [sumL]
        have hS2 := sumL_take (sizeF n) l (k + 1)
        have hS3 := sumL_le (size_le n) l
        have hbk := bulkL_at (bulkF n) l k p hp
        have hbL : bulkL (bulkF n) l ≤ 1000000000 := HB.out
        have HS1 := Lib.hid hS1
        have hcl : p.cs.length ≤ 1000000000 := by have := bulkC_len (bulkF n) p.cs; omega
        have HCAT := Lib.hid hcat
        clear hC hcat hS1 hp hcm
        generalize hbase : sumL (sizeF n) (l.take k) = base at *
        clear hbase
        go_wp2
        go_loop [3, 5] (fun t j => ∃ m : Nat, m ≤ p.cs.length ∧ j = .int .i64 m ∧ t = .int .i64 (l.length + (base + sumC (sizeF n) (p.cs.take m)) : Nat)) (fun _ j => p.cs.length - (intOf j).toNat)
        case atStart => exact ⟨0, Nat.zero_le _, rfl, by simp [sumC]⟩
        case round =>
          obtain ⟨m, hm, rfl, rfl⟩ := hrel
          by_cases hlt2 : m < p.cs.length
          · obtain ⟨c, hc⟩ : ∃ c, p.cs[m]? = some c := ⟨_, List.getElem?_eq_getElem hlt2⟩
            obtain ⟨b2, o2, pv, rfl, hb2, e1, e2, hL⟩ := HCAT.out m c hc
            have hs1 : sumC (sizeF n) (p.cs.take (m + 1)) = sumC (sizeF n) (p.cs.take m) + sizeF n c.2 := by rw [take_snoc' hc, sumC_append]; simp [sumC]
            have hs2 := sumC_take (sizeF n) p.cs (m + 1)
            have hs3 := HS1.out
            have hbc := bulkC_at (bulkF n) p.cs m c hc
            have hS : Hid (Calls Tryz.prog 27 #[pv] w fun e w' => e = .returned (.int .i64 (sizeF n c.2)) ∧ w = w') := HIH.out c.2 S _ w hL (by omega)
            have HS2 := Lib.hid hs1
            have hbound : l.length + (base + sumC (sizeF n) (p.cs.take m)) + sizeF n c.2 ≤ 1000000000 := by omega
            clear e1 hL hc hs1 hs2 hs3
            generalize sumC (sizeF n) (p.cs.take m) = sm at *
            go_wp2_with (go_at_call 27; refine hS.out.mono ?_; rintro e w5 ⟨rfl, rfl⟩)
            go_round
            case rel => exact ⟨m + 1, by omega, by go_num, by rw [HS2.out]; go_num⟩
            case measure => simp [intOf]; omega
          · obtain rfl : m = p.cs.length := by omega
            have hs3 := HS1.out
            rw [List.take_length]
            go_wp2
            go_round
            case rel => exact ⟨k + 1, by omega, by go_num, by rw [hs3]⟩
            case measure => simp [intOf]; omega
      · go_wp2
        go_ret
        obtain rfl : k = l.length := by omega
        exact ⟨by rw [List.take_length]; rfl, rfl⟩
set_option maxRecDepth 100000 in
set_option maxHeartbeats 4000000 in
/-- vernacularref19.Depth. -/
theorem depth19_any : ∀ (n : Nat) (l : List PT) (S : Nat → Prop) (v : Value) (w : World), Lies n S w v l → bulkF n l ≤ 1000000000 →
    Calls Tryz.prog 23 #[v] w fun e w' => e = .returned (.int .i64 (depthF n l)) ∧ w = w'
  | 0, _, _, _, _, h, _ => h.elim
  | n + 1, l, S, v, w, h, hb => by
    obtain ⟨A, cap, rfl, hml, hat⟩ := lies_open h
    have HAT := Lib.hid hat
    have HIH := Lib.hid (depth19_any n)
    have hll : l.length ≤ 1000000000 := by have := bulkL_len (bulkF n) l; simp only [bulkF] at hb; omega
    have HB := Lib.hid hb
    clear h hat hml hb
    go_enter Tryz.func23, Tryz.ntmps23
    go_wp2
    go_loop [3, 4] (fun t i => ∃ k : Nat, k ≤ l.length ∧ i = .int .i64 k ∧ t = .int .i64 (mostL (depthF n) 0 (l.take k) : Nat)) (fun _ i => l.length - (intOf i).toNat)
    case atStart => exact ⟨0, Nat.zero_le _, rfl, by simp [mostL]⟩
    case round =>
      obtain ⟨k, hk, rfl, rfl⟩ := hrel
      by_cases hlt : k < l.length
      · obtain ⟨p, hp⟩ : ∃ p, l[k]? = some p := ⟨_, List.getElem?_eq_getElem hlt⟩
        obtain ⟨b, o, cv, rfl, hb, ⟨a0, _, _, _, _, _, a6⟩, hC⟩ := HAT.out k p hp
        obtain ⟨Ac, cc, rfl, hcm, hcat⟩ := liesC_open hC
        have hS1 : mostL (depthF n) 0 (l.take (k + 1)) = mostC (depthF n) (mostL (depthF n) 0 (l.take k)) (casesP p) := by rw [take_snoc' hp, mostL_append]; rfl
        have hS2 := mostL_take_le (depth_le n) l k
        have hbk := bulkL_at (bulkF n) l k p hp
        have hbL : bulkL (bulkF n) l ≤ 1000000000 := HB.out
        have HS1 := Lib.hid hS1
        have hcl : p.cs.length ≤ 1000000000 := by have := bulkC_len (bulkF n) p.cs; omega
        have HCAT := Lib.hid hcat
        clear hC hcat hS1 hp hcm
        generalize mostL (depthF n) 0 (l.take k) = base at *
        by_cases hkd : p.k < 4 ∨ 6 < p.k
        · have HX : Hid (casesP p = []) := by unfold Hid casesP; rw [if_pos hkd]
          go_wp2
          go_loop [3, 5] (fun t j => t = .int .i64 (base : Nat) ∧ j = .int .i64 0) (fun _ _ => 0)
          case atStart => exact ⟨rfl, rfl⟩
          case round =>
            obtain ⟨rfl, rfl⟩ := hrel
            by_cases h4 : p.k < 4
            · by_cases hz : p.cs.length = 0
              · go_wp2
                go_round
                case rel => exact ⟨k + 1, by omega, by go_num, by rw [HS1.out, HX.out]; rfl⟩
                case measure => simp [intOf]; omega
              · have hz' : (0 : Int) < p.cs.length := by omega
                go_wp2
                go_round
                case rel => exact ⟨k + 1, by omega, by go_num, by rw [HS1.out, HX.out]; rfl⟩
                case measure => simp [intOf]; omega
            · have h4' : 4 ≤ p.k := by omega
              have h6' : ¬ p.k ≤ 6 := by omega
              by_cases hz : p.cs.length = 0
              · go_wp2
                go_round
                case rel => exact ⟨k + 1, by omega, by go_num, by rw [HS1.out, HX.out]; rfl⟩
                case measure => simp [intOf]; omega
              · have hz' : (0 : Int) < p.cs.length := by omega
                go_wp2
                go_round
                case rel => exact ⟨k + 1, by omega, by go_num, by rw [HS1.out, HX.out]; rfl⟩
                case measure => simp [intOf]; omega
        · have HX : Hid (casesP p = p.cs) := by unfold Hid casesP; rw [if_neg hkd]
          have h4' : 4 ≤ p.k := by omega
          have h6' : p.k ≤ 6 := by omega
          clear hkd
          go_wp2
          go_loop [3, 5] (fun t j => ∃ m : Nat, m ≤ p.cs.length ∧ j = .int .i64 m ∧ t = .int .i64 (mostC (depthF n) base (p.cs.take m) : Nat)) (fun _ j => p.cs.length - (intOf j).toNat)
          case atStart => exact ⟨0, Nat.zero_le _, rfl, by simp [mostC]⟩
          case round =>
            obtain ⟨m, hm, rfl, rfl⟩ := hrel
            by_cases hlt2 : m < p.cs.length
            · obtain ⟨c, hc⟩ : ∃ c, p.cs[m]? = some c := ⟨_, List.getElem?_eq_getElem hlt2⟩
              obtain ⟨b2, o2, pv, rfl, hb2, e1, e2, hL⟩ := HCAT.out m c hc
              have hs1 : mostC (depthF n) base (p.cs.take (m + 1)) = max (mostC (depthF n) base (p.cs.take m)) (1 + depthF n c.2) := by rw [take_snoc' hc, mostC_append]; rfl
              have hbc := bulkC_at (bulkF n) p.cs m c hc
              have hdl := depth_le n c.2
              have hml : mostC (depthF n) base (p.cs.take m) ≤ 1000000000 := by
                have h1 := mostC_le (depth_le n) base (p.cs.take m)
                have h2 : bulkC (bulkF n) (p.cs.take m) ≤ bulkC (bulkF n) p.cs := by
                  have happ : ∀ a b : List CT, bulkC (bulkF n) (a ++ b) = bulkC (bulkF n) a + bulkC (bulkF n) b := fun a b => by
                    induction a with
                    | nil => simp [bulkC]
                    | cons x a ih => simp only [List.cons_append, bulkC, ih]; omega
                  have := happ (p.cs.take m) (p.cs.drop m)
                  rw [List.take_append_drop] at this; omega
                omega
              have hS : Hid (Calls Tryz.prog 23 #[pv] w fun e w' => e = .returned (.int .i64 (depthF n c.2)) ∧ w = w') := HIH.out c.2 S _ w hL (by omega)
              have HS2 := Lib.hid hs1
              clear e1 hL hc hs1
              generalize mostC (depthF n) base (p.cs.take m) = sm at *
              generalize depthF n c.2 = dc at *
              go_wp2_with (go_at_call 23; refine hS.out.mono ?_; rintro e w5 ⟨rfl, rfl⟩)
              go_round
              case rel => exact ⟨m + 1, by omega, by go_num, by rw [HS2.out]; congr 1; omega⟩
              case measure => simp [intOf]; omega
            · obtain rfl : m = p.cs.length := by omega
              have hs3 := HS1.out
              rw [List.take_length]
              go_wp2
              go_round
              case rel => exact ⟨k + 1, by omega, by go_num, by rw [hs3, HX.out]⟩
              case measure => simp [intOf]; omega
      · go_wp2
        go_ret
        obtain rfl : k = l.length := by omega
        exact ⟨by rw [List.take_length]; rfl, rfl⟩
/-- A bool comes back. -/
def BoolRet (e : Ending) : Prop := ∃ b, e = .returned (.bool b)
set_option maxRecDepth 100000 in
set_option maxHeartbeats 4000000 in
/-- vernacularlaw19.small: it ends, and moves nothing. -/
theorem small_any : ∀ (n : Nat) (l : List PT) (d : Int) (S : Nat → Prop) (v : Value) (w : World), Lies n S w v l → bulkF n l ≤ 1000000000 → 0 ≤ d → d ≤ 41 →
    Calls Tryz.prog 10 #[v, .int .i64 d] w fun e w' => BoolRet e ∧ Keep [] w w'
  | 0, _, _, _, _, _, h, _, _, _ => h.elim
  | n + 1, l, d, S, v, w, h, hb, hd0, hd => by
    obtain ⟨A, cap, rfl, hml, hat⟩ := lies_open h
    have HAT := Lib.hid hat
    have HIH := Lib.hid (small_any n)
    have hll : l.length ≤ 1000000000 := by have := bulkL_len (bulkF n) l; simp only [bulkF] at hb; omega
    have HB := Lib.hid hb
    clear h hat hml hb
    by_cases h40 : 40 < d
    · go_enter Tryz.func10, Tryz.ntmps10
      go_wp2
      go_ret
      exact ⟨⟨_, rfl⟩, Keep.refl _ _⟩
    · have h40' : d ≤ 40 := by omega
      by_cases h12 : 1200 < l.length
      · have h12' : (1200 : Int) < l.length := by omega
        go_enter Tryz.func10, Tryz.ntmps10
        go_wp2
        go_ret
        exact ⟨⟨_, rfl⟩, Keep.refl _ _⟩
      · have h12' : ¬ (1200 : Int) < l.length := by omega
        go_enter Tryz.func10, Tryz.ntmps10
        go_wp2
        go_loopw [18] (fun i wr => ∃ k : Nat, k ≤ l.length ∧ i = .int .i64 k ∧ Keep [] w wr) (fun i _ => l.length - (intOf i).toNat)
        case atStart => exact ⟨0, Nat.zero_le _, rfl, Keep.refl _ _⟩
        case round =>
          obtain ⟨k, hk, rfl, hK⟩ := hrel
          have HK := Lib.hid hK
          clear hK
          by_cases hlt : k < l.length
          · obtain ⟨p, hp⟩ : ∃ p, l[k]? = some p := ⟨_, List.getElem?_eq_getElem hlt⟩
            obtain ⟨b, o, cv, rfl, hb, hP, hC⟩ := HAT.out k p hp
            obtain ⟨a0, a1, a2, a3, a4, a5, a6⟩ := hP.keep HK.out hb
            have hC1 := hC.keep HK.out (by simp)
            obtain ⟨Ac, cc, rfl⟩ := hC1.formL
            have hbk := bulkL_at (bulkF n) l k p hp
            have hbL : bulkL (bulkF n) l ≤ 1000000000 := HB.out
            have HC := Lib.hid hC1
            have hcl : p.cs.length ≤ 1000000000 := by have := bulkC_len (bulkF n) p.cs; omega
            have hbr := Nat.lt_of_lt_of_le hb HK.out.size
            clear hP hC hC1 hp
            have hKx : Keep [] wr (wr.alloc (.cells #[.int .i64 p.k, .string p.tx, .string p.nm, .string p.ty, .string p.st, .int .i64 p.off, .slice Ac p.cs.length cc] 47)) := (Keep.refl [] wr).alloc _
            have HKX := Lib.hid (HK.out.nil hKx)
            have HC2 := Lib.hid (HC.out.keep hKx (by simp))
            clear hKx HC
            by_cases h100 : 100 < p.cs.length
            · have h100' : (100 : Int) < p.cs.length := by omega
              go_wp2
              go_ret
              exact ⟨⟨_, rfl⟩, HKX.out⟩
            · have h100' : ¬ (100 : Int) < p.cs.length := by omega
              go_wp2
              clear a0 a1 a2 a3 a4 a5 a6
              generalize wr.alloc (.cells #[.int .i64 p.k, .string p.tx, .string p.nm, .string p.ty, .string p.st, .int .i64 p.off, .slice Ac p.cs.length cc] 47) = W1 at *
              generalize wr.heap.size = bx at *
              obtain ⟨A2, cap2, he, _, hcat⟩ := liesC_open HC2.out
              injection he with he1 he2 he3
              subst he1; subst he3
              have HCAT := Lib.hid hcat
              clear hcat
              go_loopw [29] (fun j wx => ∃ m : Nat, m ≤ p.cs.length ∧ j = .int .i64 m ∧ Keep [] W1 wx) (fun j _ => p.cs.length - (intOf j).toNat)
              case atStart => exact ⟨0, Nat.zero_le _, rfl, Keep.refl _ _⟩
              case round =>
                obtain ⟨m, hm, rfl, hKi⟩ := hrel
                have HKi := Lib.hid hKi
                clear hKi
                by_cases hlt2 : m < p.cs.length
                · obtain ⟨c, hc⟩ : ∃ c, p.cs[m]? = some c := ⟨_, List.getElem?_eq_getElem hlt2⟩
                  obtain ⟨b2, o2, pv, rfl, hb2, e1, e2, hL⟩ := HCAT.out m c hc
                  have e1' := (HKi.out.cell (p := ⟨b2, o2 + m * 2, none⟩) hb2 (by simp)).trans e1
                  have e2' := (HKi.out.cell (p := ⟨b2, o2 + m * 2 + 1, none⟩) hb2 (by simp)).trans e2
                  obtain ⟨Ap, mp, kp, rfl⟩ := hL.form
                  have hbr2 := Nat.lt_of_lt_of_le hb2 HKi.out.size
                  have hbc := bulkC_at (bulkF n) p.cs m c hc
                  have hS : Hid (∀ W, Keep [] W1 W → Calls Tryz.prog 10 #[.slice Ap mp kp, .int .i64 (d + 1)] W fun e w' => BoolRet e ∧ Keep [] W w') := fun W hW => HIH.out c.2 (d + 1) S _ W (hL.keep hW (by simp)) (by omega) (by omega) (by omega)
                  have m1 : IntKind.i64.wrap (d + 1) = d + 1 := IntWalk.i64_in _ (by omega)
                  clear e1 e2 hL hc
                  go_wp2_with (go_at_call 10; refine (hS.out _ (HKi.out.alloc _)).mono ?_; rintro e w5 ⟨⟨q, rfl⟩, hk5⟩; have HK5 := Lib.hid hk5; clear hk5; cases q)
                  all_goals first
                    | (go_ret; exact ⟨⟨_, rfl⟩, HKX.out.nil ((HKi.out.alloc _).nil HK5.out)⟩)
                    | (go_roundw
                       case rel => exact ⟨m + 1, by omega, by go_num, (HKi.out.alloc _).nil HK5.out⟩
                       case measure => simp [intOf]; omega)
                · obtain rfl : m = p.cs.length := by omega
                  go_wp2
                  go_roundw
                  case rel => exact ⟨k + 1, by omega, by go_num, HKX.out.nil HKi.out⟩
                  case measure => simp [intOf]; omega
          · go_wp2
            go_ret
            exact ⟨⟨_, rfl⟩, HK.out⟩
end Go.Proofs.YtjldgcpmdcoejaaGreatDoor

namespace Go.Proofs.YtjldgcpmdcoejaaGreatDoor
open Go.RowKit

theorem ta_nil (W : World) : (Instr.typeAssert .nilIface 20 59 true).run Tryz.prog W = .ok (.tuple #[.agg #[.int .i64 0, .int .i64 0], .bool false]) W := by
  simp [Instr.typeAssert, go_sem]
theorem ta_stop (W : World) (v : Value) : (Instr.typeAssert (.iface 59 v) 20 59 true).run Tryz.prog W = .ok (.tuple #[v, .bool true]) W := by
  simp [Instr.typeAssert, go_sem]
set_option maxRecDepth 100000 in
set_option maxHeartbeats 1000000 in
theorem catch_idle (a b : Nat) (w : World) :
    CallsD Tryz.prog 35 #[.pointer (some ⟨a, 0, none⟩), .pointer (some ⟨b, 0, none⟩)] .returning w fun e u' w' => e = .returned (.tuple #[]) ∧ u' = .returning ∧ Keep [] w w' := by
  refine callsD_of_wpS Tryz.func35 rfl fun c₀ cs hu => ?_
  apply wpS_seq
  apply wpS_region
  simp [wpOpsS, go_sem, recoverD, hu, Tryz.ntmps35, Exit.thenS, ta_nil]
  apply wpS_seq
  apply wpS_region
  simp [wpOpsS, go_sem, Exit.thenS]
  refine wpS_cond (t := false) (by simp [Act.eval, Array.replicate]) ?_
  simp only [Bool.false_eq_true, if_false]
  refine wpS_of_wp (wp_skip ?_)
  cases c₀
  simp_all [bodyPostS, results, Tryz.results35]
  exact (Keep.refl _ _).alloc _
set_option maxRecDepth 100000 in
set_option maxHeartbeats 1000000 in
theorem catch_stop (a b : Nat) (er p : Int) (w : World) (va : Value) (ta tb : TypeId) (x y : Value) (ha : Blk w a ta #[va]) (hb : Blk w b tb #[x, y]) (hab : a ≠ b) :
    CallsD Tryz.prog 35 #[.pointer (some ⟨a, 0, none⟩), .pointer (some ⟨b, 0, none⟩)] (.panicking [{ v := .iface 59 (.agg #[.int .i64 er, .int .i64 p]), recovered := false }]) w fun e u' w' => e = .returned (.tuple #[]) ∧ u' = .panicking [{ v := .iface 59 (.agg #[.int .i64 er, .int .i64 p]), recovered := true }] ∧ Blk w' a ta #[.slice none 0 0] ∧ Blk w' b tb #[.int .i64 er, .int .i64 p] ∧ Keep [a, b] w w' := by
  have a0 : w.cell? ⟨a, 0, none⟩ = some va := ha.cell_eq rfl
  have b0 : w.cell? ⟨b, 0, none⟩ = some x := hb.cell_eq rfl
  have b1 : w.cell? ⟨b, 1, none⟩ = some y := hb.cell_eq rfl
  have za := ha.frozen 0
  have zb := hb.frozen 0
  have zb1 := hb.frozen 1
  have hla := ha.lt
  have hlb := hb.lt
  refine callsD_of_wpS Tryz.func35 rfl fun c₀ cs hu => ?_
  apply wpS_seq
  apply wpS_region
  simp [wpOpsS, go_sem, recoverD, hu, Tryz.ntmps35, Exit.thenS, ta_stop]
  apply wpS_seq
  apply wpS_region
  simp [wpOpsS, go_sem, Exit.thenS]
  refine wpS_cond (t := true) (by simp [Act.eval, Array.replicate]) ?_
  simp only [if_true]
  refine wpS_of_wp ?_
  have key : (#[Value.pointer (some ⟨a, 0, none⟩), Value.pointer (some ⟨b, 0, none⟩)] ++ ((((((((Array.replicate 13 undef).setIfInBounds 3 (Value.iface 59 (.agg #[.int .i64 er, .int .i64 p]))).setIfInBounds 4 (Value.tuple #[.agg #[.int .i64 er, .int .i64 p], .bool true])).setIfInBounds 2 (Value.tuple #[.agg #[.int .i64 er, .int .i64 p], .bool true])).setIfInBounds 5 (Value.agg #[.int .i64 er, .int .i64 p])).setIfInBounds 6 (Value.bool true)).setIfInBounds 0 (Value.pointer (some ⟨w.heap.size, 0, none⟩))).setIfInBounds 1 (Value.bool true)).setIfInBounds 7 (Value.bool true) : Array Value) = #[.pointer (some ⟨a, 0, none⟩), .pointer (some ⟨b, 0, none⟩), .pointer (some ⟨w.heap.size, 0, none⟩), .bool true, .tuple #[.agg #[.int .i64 er, .int .i64 p], .bool true], .iface 59 (.agg #[.int .i64 er, .int .i64 p]), .tuple #[.agg #[.int .i64 er, .int .i64 p], .bool true], .agg #[.int .i64 er, .int .i64 p], .bool true, .bool true, undef, undef, undef, undef, undef] := by kernel_rfl
  rw [key]
  clear key
  go_region
  have hA : Blk ((((w.setCell ⟨a, 0, none⟩ (.slice none 0 0)).setCell ⟨b, 0, none⟩ (.int .i64 er)).setCell ⟨b, 1, none⟩ (.int .i64 p)).alloc (.cells #[.int .i64 er, .int .i64 p] 59)).drew a ta #[.slice none 0 0] :=
    (((Blk.set_ ha 0 _).far (p := ⟨b, 0, none⟩) hab _).far (p := ⟨b, 1, none⟩) hab _).alloc _
  have hB : Blk ((((w.setCell ⟨a, 0, none⟩ (.slice none 0 0)).setCell ⟨b, 0, none⟩ (.int .i64 er)).setCell ⟨b, 1, none⟩ (.int .i64 p)).alloc (.cells #[.int .i64 er, .int .i64 p] 59)).drew b tb #[.int .i64 er, .int .i64 p] :=
    (Blk.set_ (Blk.set_ (hb.far (p := ⟨a, 0, none⟩) (fun h => hab h.symm) _) 0 _) 1 _).alloc _
  have hK : Keep [a, b] w ((((w.setCell ⟨a, 0, none⟩ (.slice none 0 0)).setCell ⟨b, 0, none⟩ (.int .i64 er)).setCell ⟨b, 1, none⟩ (.int .i64 p)).alloc (.cells #[.int .i64 er, .int .i64 p] 59)).drew :=
    ((((((Keep.refl [a, b] w).setCell (p := ⟨a, 0, none⟩) (.inl (by simp)) _).setCell (p := ⟨b, 0, none⟩) (.inl (by simp)) _).setCell (p := ⟨b, 1, none⟩) (.inl (by simp)) _).alloc _).drew)
  generalize ((((w.setCell ⟨a, 0, none⟩ (.slice none 0 0)).setCell ⟨b, 0, none⟩ (.int .i64 er)).setCell ⟨b, 1, none⟩ (.int .i64 p)).alloc (.cells #[.int .i64 er, .int .i64 p] 59)).drew = W at *
  clear a0 b0 b1 za zb zb1 hla hlb ha hb
  cases c₀
  simp only [bodyPostS, results, Tryz.results35]
  exact ⟨trivial, _, rfl, .tuple #[], by simp, rfl, rfl, hA, hB, hK⟩

set_option maxRecDepth 100000 in
set_option maxHeartbeats 4000000 in
/-- Parse, of a text that is read. -/
theorem parse_ok {B : Nat} (s : ByteArray) (w : World) (hE : EnvM B w) (hs : s.size ≤ 4096) (hb : brk s < 0) (l : List PT) (n : Nat) (hm : msgF s (s.size + 1) 0 false [] 0 0 = .ok l s.size n) :
    Calls Tryz.prog 18 #[.string s] w fun e w' => ∃ u S, e = .returned (.tuple #[u, .agg #[.int .i64 0, .int .i64 0]]) ∧ Lies (s.size + 2) S w' u l ∧ (∀ b, S b → w.heap.size ≤ b ∧ b < w'.heap.size) ∧ Keep [] w w' := by
  have HE := Lib.hid hE
  have hmf : ∀ (fn : Fn) (first cap : Array Value) (w : World), (Instr.makeFunc fn first cap).run Tryz.prog w = .ok (.func fn first cap) w := fun _ _ _ _ => rfl
  have HC : Hid (∀ W, Calls Tryz.prog 30 #[.string s] W fun e w' => e = .returned (.agg #[.int .i64 0, .int .i64 0]) ∧ Below W.heap.size W w') := fun W => (check_any s W (by omega)).mono fun e w' ⟨h1, h2⟩ => ⟨by rw [h1]; unfold spotErr spotAt; rw [if_pos hb, if_pos hb], h2⟩
  have HM := Lib.hid hm
  have e1 : ¬ (4096 : Int) < s.size := by omega
  clear hE hb hm
  go_enter_defers Tryz.func18, Tryz.ntmps18
  go_wp2_with fail
  refine (HC.out _).mono ?_
  rintro e w1 ⟨rfl, hb1⟩
  have hA1 := ((Blk.new w 22 #[.slice none 0 0]).alloc (.cells #[.int .i64 0, .int .i64 0] 36)).below hb1 (by simp; omega)
  have hB1 := (Blk.new' (w.alloc (.cells #[.slice none 0 0] 22)) 36 #[.int .i64 0, .int .i64 0] (w.heap.size + 1) (by simp)).below hb1 (by simp)
  have hK1 : Keep [] w w1 := (((Keep.refl [] w).alloc _).alloc _).below_ge hb1 (by simp; omega)
  obtain ⟨a, ha⟩ : ∃ a, w.heap.size = a := ⟨_, rfl⟩
  rw [ha] at hA1 hB1 ⊢
  have HA := Lib.hid ha
  have HA1 := Lib.hid hA1
  have HB1 := Lib.hid hB1
  have HK1 := Lib.hid hK1
  have hz1 : a + 1 < w1.heap.size := hB1.lt
  clear hb1 hA1 hB1 hK1 ha
  go_wp2_with fail
  have hR2 : Rr ((w1.alloc (.cells #[.int .i64 0, .int .i64 0] 36)).alloc (.cells #[.string s, .int .i64 0, .int .i64 0, .int .i64 0, .slice none 0 0] 64)) (w1.heap.size + 1) s 0 0 0 (.slice none 0 0) := Blk.new' _ _ _ _ (by simp)
  have hK2 : Keep [] w1 ((w1.alloc (.cells #[.int .i64 0, .int .i64 0] 36)).alloc (.cells #[.string s, .int .i64 0, .int .i64 0, .int .i64 0, .slice none 0 0] 64)) := ((Keep.refl [] w1).alloc _).alloc _
  generalize (w1.alloc (.cells #[.int .i64 0, .int .i64 0] 36)).alloc (.cells #[.string s, .int .i64 0, .int .i64 0, .int .i64 0, .slice none 0 0] 64) = W2 at *
  have hE2 : EnvM B W2 := (HE.out.keep HK1.out (by simp)).keep hK2 (by simp)
  have hMC := msg_all s (by omega) (s.size + 1) W2 B (w1.heap.size + 1) 0 0 0 (.slice none 0 0) [] hE2 (by have := HE.out.env.le; have := HK1.out.size; omega) hR2 (Hs.nil _ _) (Nat.zero_le _) (by omega) (by omega) rfl (by rw [show topB [] = false from rfl, HM.out]; simp) (by rw [show topB [] = false from rfl, HM.out]; simp)
  rw [show topB [] = false from rfl, HM.out] at hMC
  have HMC := Lib.hid hMC
  have HK2 := Lib.hid hK2
  have hgl := hR2.lt
  generalize hgg : w1.heap.size + 1 = g at *
  have HG := Lib.hid hgg
  clear hgg hMC hK2 hE2 hR2 HC
  refine HMC.out.mono ?_
  rintro x w3 ⟨u, v3, S, rfl, hL3, hS3, hR3, _, _, hk3, _⟩
  have hk23 : Keep [g] w1 w3 := ((HK2.out).mono (fun x hx => by cases hx)).same (hk3.mono (fun x hx => .inl (by simpa [Value.ownBlock] using hx)))
  have hA3 := HA1.out.keep hk23 (by have := HG.out; simp; omega)
  have hB3 := HB1.out.keep hk23 (by have := HG.out; simp; omega)
  obtain ⟨A3, m3, k3, rfl⟩ := hL3.form
  obtain ⟨c0, c1, _⟩ := hR3.cells
  have a0 : w3.cell? ⟨a, 0, none⟩ = some (.slice none 0 0) := hA3.cell_eq rfl
  have b0 : w3.cell? ⟨a + 1, 0, none⟩ = some (.int .i64 0) := hB3.cell_eq rfl
  have b1 : w3.cell? ⟨a + 1, 1, none⟩ = some (.int .i64 0) := hB3.cell_eq rfl
  have za := hA3.frozen 0
  have zb := hB3.frozen 0
  have zb1 := hB3.frozen 1
  have HL3 := Lib.hid hL3
  have HS3 := Lib.hid hS3
  have HA3 := Lib.hid hA3
  have HB3 := Lib.hid hB3
  have HK3 := Lib.hid hk23
  have hga : a + 1 < g := by have := HG.out; omega
  clear hL3 hS3 hR3 hk3 hk23 hA3 hB3 HMC HK2
  go_wp2_with fail
  refine leaves_cons (f := 35) (args := #[.pointer (some ⟨a, 0, none⟩), .pointer (some ⟨a + 1, 0, none⟩)]) (by simp) (by simp [go_sem]) ?_
  refine (catch_idle a (a + 1) _).mono ?_
  rintro e u' w4 ⟨rfl, rfl, hk4⟩
  have hkd : Keep [a, a + 1] w3 ((((w3.setCell ⟨a, 0, none⟩ (.slice A3 m3 k3)).setCell ⟨a, 0, none⟩ (.slice A3 m3 k3)).setCell ⟨a + 1, 0, none⟩ (.int .i64 0)).setCell ⟨a + 1, 1, none⟩ (.int .i64 0)) :=
    ((((Keep.refl [a, a + 1] w3).setCell (p := ⟨a, 0, none⟩) (.inl (by simp)) _).setCell (p := ⟨a, 0, none⟩) (.inl (by simp)) _).setCell (p := ⟨a + 1, 0, none⟩) (.inl (by simp)) _).setCell (p := ⟨a + 1, 1, none⟩) (.inl (by simp)) _
  have hAD : Blk ((((w3.setCell ⟨a, 0, none⟩ (.slice A3 m3 k3)).setCell ⟨a, 0, none⟩ (.slice A3 m3 k3)).setCell ⟨a + 1, 0, none⟩ (.int .i64 0)).setCell ⟨a + 1, 1, none⟩ (.int .i64 0)) a 22 #[.slice A3 m3 k3] :=
    ((Blk.set_ (Blk.set_ HA3.out 0 _) 0 _).far (p := ⟨a + 1, 0, none⟩) (by simp) _).far (p := ⟨a + 1, 1, none⟩) (by simp) _
  have hBD : Blk ((((w3.setCell ⟨a, 0, none⟩ (.slice A3 m3 k3)).setCell ⟨a, 0, none⟩ (.slice A3 m3 k3)).setCell ⟨a + 1, 0, none⟩ (.int .i64 0)).setCell ⟨a + 1, 1, none⟩ (.int .i64 0)) (a + 1) 36 #[.int .i64 0, .int .i64 0] :=
    Blk.set_ (Blk.set_ ((HB3.out.far (p := ⟨a, 0, none⟩) (by simp) _).far (p := ⟨a, 0, none⟩) (by simp) _) 0 _) 1 _
  have hA4 := hAD.keep hk4 (by simp)
  have hB4 := hBD.keep hk4 (by simp)
  have hk34 := hkd.nil hk4
  clear hk4 hkd hAD hBD a0 b0 b1 za zb zb1 c0 c1
  have a0 : w4.cell? ⟨a, 0, none⟩ = some (.slice A3 m3 k3) := hA4.cell_eq rfl
  have b0 : w4.cell? ⟨a + 1, 0, none⟩ = some (.int .i64 0) := hB4.cell_eq rfl
  have b1 : w4.cell? ⟨a + 1, 1, none⟩ = some (.int .i64 0) := hB4.cell_eq rfl
  have hz4 := hk34.size
  have hz3 := HK3.out.size
  have hS4 : ∀ b, S b → w.heap.size ≤ b ∧ b < w4.heap.size ∧ b ≠ a ∧ b ≠ a + 1 := fun b hb => by
    obtain ⟨h1, h2, _⟩ := HS3.out b hb
    have := HA.out
    exact ⟨by omega, by omega, by omega, by omega⟩
  simp [Leaves, settle, results, Tryz.results18, go_sem, a0, b0, b1]
  refine ⟨S, HL3.out.keep hk34 (fun x hx hc => ?_), fun b hb => ⟨(hS4 b hb).1, (hS4 b hb).2.1⟩, ?_⟩
  · have := hS4 x hc
    simp at hx
    omega
  · refine ((HK1.out.trans HK3.out (fun x hx => .inr ?_)).trans hk34 (fun x hx => .inr ?_))
    · simp at hx; have := HA.out; omega
    · simp at hx; have := HA.out; omega
end Go.Proofs.YtjldgcpmdcoejaaGreatDoor

namespace Go.Proofs.YtjldgcpmdcoejaaGreatDoor
open Go.RowKit

def formV (r : List UInt8 × Int) : Value := .tuple #[.string ⟨r.1.toArray⟩, .int .i64 r.2]
set_option maxRecDepth 100000 in
set_option maxHeartbeats 8000000 in
/-- form. -/
theorem form_any (n : Nat) (l : List PT) (S : Nat → Prop) (v : Value) (B : Nat) (w : World) (hE : EnvM B w) (hh : Lies n S w v l) (hS : ∀ x, S x → x < w.heap.size) (hq : allF PlainOK n l) (ho : allO offOK n l) (hb : bulkF n l ≤ 900000000) :
    Calls Tryz.prog 25 #[v] w fun e w' => e = .returned (formV (formF n l)) ∧ Keep [] w w' := by
  obtain ⟨A, m, cap, rfl⟩ := hh.form
  have HR : Hid (Calls Tryz.prog 51 #[.slice A m cap, .bool false] w fun e w' => e = .returned (.bool (rightF n l false)) ∧ Keep [] w w') := right_any n l false S _ B w hE hh hq (by omega)
  obtain ⟨f, hf⟩ : ∃ f, formF n l = f := ⟨_, rfl⟩
  have HF : Hid (formF n l = f) := hf
  rw [hf]
  cases hr : rightF n l false with
  | false =>
    rw [hr] at HR
    have hf1 : f = ([], 2) := by rw [← hf]; unfold formF; rw [if_pos hr]
    subst hf1
    clear hE hh hq ho hb hf HF hr hS
    go_enter Tryz.func25, Tryz.ntmps25
    go_wp2_with (go_at_call 51; refine HR.out.mono ?_; rintro e w1 ⟨rfl, hk1⟩; have HK1 := Lib.hid hk1; clear hk1)
    exact bodyPost_ret (v := formV ([], 2)) (by simp [results, Tryz.results25, go_sem, formV]) rfl ⟨rfl, HK1.out⟩
  | true =>
    rw [hr] at HR
    have hf1 : f = if 1024 < sizeF n l ∨ 8 < depthF n l ∨ 4096 < (writeF n l false).length then ([], 3) else (writeF n l false, 0) := by rw [← hf]; unfold formF; rw [if_neg (by rw [hr]; decide)]
    have HF1 := Lib.hid hf1
    have HL := Lib.hid hh
    have HE := Lib.hid hE
    have HS := Lib.hid hS
    have HO := Lib.hid ho
    have HSZ : ∀ W, Lies n S W (.slice A m cap) l → Hid (Calls Tryz.prog 53 #[.slice A m cap] W fun e w' => e = .returned (.int .i64 (sizeF n l)) ∧ Keep [] W w') := fun W hW => size_any n l S _ W hW (by omega)
    have HDP : ∀ W, Lies n S W (.slice A m cap) l → Hid (Calls Tryz.prog 22 #[.slice A m cap] W fun e w' => e = .returned (.int .i64 (depthF n l)) ∧ Keep [] W w') := fun W hW => depth_any n l S _ W hW (by omega)
    have HWR : ∀ b W, EnvM B W → B ≤ b → Lies n S W (.slice A m cap) l → (∀ x, S x → x < b) → Bld b [] W → Hid (Calls Tryz.prog 52 #[.pointer (some ⟨b, 0, none⟩), .slice A m cap, .bool false] W (WPost b [] (writeF n l false) W)) := fun b W h1 h2 h3 h4 h5 => write_any n l false S _ b [] B W h1 h2 h3 h4 h5 ho (by omega) (by simp; omega)
    have hwl := allO_len n l false ho
    have hnw : (writeF n l false).length ≤ 90000000000 := by omega
    clear hE hh hq ho hb hf HF hr hS hf1 hwl
    generalize sizeF n l = sz at *
    generalize depthF n l = dp at *
    generalize writeF n l false = out at *
    go_enter Tryz.func25, Tryz.ntmps25
    go_wp2_with (first
      | (go_at_call 51; refine HR.out.mono ?_; rintro e w1 ⟨rfl, hk1⟩; have HK1 := Lib.hid hk1; have HB1 := Lib.hid hk1.toBelow; have HL1 := Lib.hid (HL.out.keep hk1 (by simp)); have HE1 := Lib.hid (HE.out.keep hk1 (by simp)); clear hk1)
      | (go_at_call 52; refine (HWR w1.heap.size (w1.alloc (.cells #[.pointer none, .slice none 0 0] 83)) (HE1.out.keep ((Keep.refl [] w1).alloc _) (by simp)) HE1.out.env.le (HL1.out.keep (bs := []) ((Keep.refl [] w1).alloc _) (by simp)) (fun x hx => Nat.lt_of_lt_of_le (HS.out x hx) HB1.out.size) (Bld.new' w1 _ rfl)).out.mono ?_; rintro e w2 ⟨rfl, hb2, hk2⟩; have hz1 := HB1.out.size; have HB2 := Lib.hid (HB1.out.trans ((((Keep.refl [] w1).alloc _).toBelow.trans (hk2.below.mono (Nat.le_refl _))).mono hz1)); have HBB2 := Lib.hid hb2; have HL2 := Lib.hid (HL1.out.keep (bs := []) (Keep.of_below (((Keep.refl [] w1).alloc _).toBelow.trans (hk2.below.mono (Nat.le_refl _)))) (by simp)); clear hb2 hk2)
      | (go_at_call 53; refine (HSZ _ HL2.out).out.mono ?_; rintro e w3 ⟨rfl, hk3⟩; have HL3 := Lib.hid (HL2.out.keep hk3 (by simp)); have HBB3 := Lib.hid (HBB2.out.keep_nil hk3); have HB3 := Lib.hid (HB2.out.trans (hk3.toBelow.mono HB2.out.size)); clear hk3)
      | (go_at_call 22; refine (HDP _ HL3.out).out.mono ?_; rintro e w4 ⟨rfl, hk4⟩; have HBB4 := Lib.hid (HBB3.out.keep_nil hk4); have HB4 := Lib.hid (HB3.out.trans (hk4.toBelow.mono HB3.out.size)); clear hk4)
      | (go_at_call 54; refine (bld_len HBB4.out).mono ?_; rintro e w5 ⟨rfl, hw5⟩; subst hw5)
      | (go_at_call 55; refine (bld_str HBB4.out).mono ?_; rintro e w6 ⟨rfl, _, hb6, _⟩; have HB6 := Lib.hid (HB4.out.trans (hb6.mono (by have := HB1.out.size; omega))); clear hb6))
    all_goals
      first
        | (have hf : f = ([], 3) := by (rw [HF1.out, if_pos (by omega)])
           subst hf
           refine bodyPost_ret (v := formV ([], 3)) (by simp [results, Tryz.results25, go_sem, formV]) rfl ⟨rfl, ?_⟩
           first | exact Keep.of_below HB4.out | exact Keep.of_below HB3.out)
        | (have hf : f = (out, 0) := by (rw [HF1.out, if_neg (by omega)])
           subst hf
           exact bodyPost_ret (v := formV (out, 0)) (by simp [results, Tryz.results25, go_sem, formV]) rfl ⟨rfl, Keep.of_below HB6.out⟩)
set_option maxRecDepth 100000 in
/-- Print. -/
theorem print_any (n : Nat) (l : List PT) (S : Nat → Prop) (v : Value) (B : Nat) (w : World) (hE : EnvM B w) (hh : Lies n S w v l) (hS : ∀ x, S x → x < w.heap.size) (hq : allF PlainOK n l) (ho : allO offOK n l) (hb : bulkF n l ≤ 900000000) :
    Calls Tryz.prog 11 #[v] w fun e w' => e = .returned (formV (formF n l)) ∧ Keep [] w w' := by
  have HF := Lib.hid (form_any n l S v B w hE hh hS hq ho hb)
  clear hE hh hS hq ho hb
  generalize formF n l = f at *
  obtain ⟨r, e⟩ := f
  unfold formV at HF ⊢
  go_enter Tryz.func11, Tryz.ntmps11
  go_wp2_with (go_at_call 25; refine HF.out.mono ?_; rintro e w1 ⟨rfl, hk1⟩; have HK1 := Lib.hid hk1; clear hk1)
  exact bodyPost_ret (v := .tuple #[.string ⟨r.toArray⟩, .int .i64 e]) (by simp [results, Tryz.results11, go_sem]) rfl ⟨rfl, HK1.out⟩
set_option maxRecDepth 100000 in
/-- Check. -/
theorem mcheck_any (n : Nat) (l : List PT) (S : Nat → Prop) (v : Value) (B : Nat) (w : World) (hE : EnvM B w) (hh : Lies n S w v l) (hS : ∀ x, S x → x < w.heap.size) (hq : allF PlainOK n l) (ho : allO offOK n l) (hb : bulkF n l ≤ 900000000) :
    Calls Tryz.prog 13 #[v] w fun e w' => e = .returned (.int .i64 (formF n l).2) ∧ Keep [] w w' := by
  have HF := Lib.hid (form_any n l S v B w hE hh hS hq ho hb)
  clear hE hh hS hq ho hb
  generalize formF n l = f at *
  obtain ⟨r, e⟩ := f
  unfold formV at HF
  go_enter Tryz.func13, Tryz.ntmps13
  go_wp2_with (go_at_call 25; refine HF.out.mono ?_; rintro e w1 ⟨rfl, hk1⟩; have HK1 := Lib.hid hk1; clear hk1)
  go_ret
  exact ⟨rfl, HK1.out⟩
end Go.Proofs.YtjldgcpmdcoejaaGreatDoor

namespace Go.Proofs.YtjldgcpmdcoejaaGreatDoor
open Go.RowKit

def wB : ByteArray := ⟨#[123, 110, 44, 32, 112, 108, 117, 114, 97, 108, 44, 32, 111, 102, 102, 115, 101, 116, 58, 49, 32, 61, 48, 123, 110, 111, 110, 101, 125, 32, 111, 116, 104, 101, 114, 123, 35, 32, 111, 102, 32, 123, 119, 125, 125, 125]⟩
def wL : List PT := match msgF wB (wB.size + 1) 0 false [] 0 0 with | .ok l _ _ => l | _ => []
def okB (p : PT) : Bool := decide (p.tx.size ≤ 1000000000) && decide (p.nm.size ≤ 1000000000) && (decide (p.k ≠ 3) || decide (p.ty.size = 0))
def ofB (p : PT) : Bool := decide (0 ≤ p.off) && decide (p.off ≤ 999999999)
def allQ (q : PT → Bool) : Nat → List PT → Bool
  | 0, _ => true
  | n + 1, l => l.all fun p => q p && p.cs.all fun c => allQ q n c.2
theorem allQ_F {q : PT → Bool} {Q : PT → Prop} (h : ∀ p, q p = true → Q p) : ∀ (n : Nat) (l : List PT), allQ q n l = true → allF Q n l
  | 0, _, _ => trivial
  | n + 1, l, hl => fun p hp => by
    have := List.all_eq_true.1 hl p hp
    rw [Bool.and_eq_true] at this
    exact ⟨h p this.1, fun c hc => allQ_F h n c.2 (List.all_eq_true.1 this.2 c hc)⟩
theorem allQ_O {q : PT → Bool} {Q : PT → Prop} (h : ∀ p, q p = true → Q p) : ∀ (n : Nat) (l : List PT), allQ q n l = true → allO Q n l
  | 0, _, _ => trivial
  | n + 1, l, hl => fun p hp => by
    have := List.all_eq_true.1 hl p hp
    rw [Bool.and_eq_true] at this
    exact ⟨h p this.1, fun c hc => allQ_O h n c.2 (List.all_eq_true.1 this.2 c hc)⟩
theorem okB_ok (p : PT) (h : okB p = true) : PlainOK p := by
  simp only [okB, Bool.and_eq_true, Bool.or_eq_true, decide_eq_true_eq] at h
  exact plain_ok p h.1.1 h.1.2 (fun h3 => h.2.resolve_left (fun hn => hn h3))
theorem ofB_ok (p : PT) (h : ofB p = true) : offOK p := by
  simp only [ofB, Bool.and_eq_true, decide_eq_true_eq] at h
  exact h
theorem w_msg : msgF wB (wB.size + 1) 0 false [] 0 0 = .ok wL wB.size 5 := by kernel_rfl
theorem w_brk : brk wB = -1 := by kernel_rfl
theorem w_ok : allQ okB (wB.size + 2) wL = true := by kernel_rfl
theorem w_of : allQ ofB (wB.size + 2) wL = true := by kernel_rfl
theorem w_bulk : bulkF (wB.size + 2) wL ≤ 900000000 := of_decide_eq_true (by kernel_rfl)
theorem w_form : formF (wB.size + 2) wL = (wB.data.toList, 0) := by kernel_rfl
theorem w_one : ∃ p, wL = [p] ∧ p.cs.length = 2 := ⟨wL.head (by intro h; exact absurd (congrArg List.length h) (by decide +kernel)), by kernel_rfl, by kernel_rfl⟩
set_option maxRecDepth 100000 in
set_option maxHeartbeats 2000000 in
/-- wakes is true. -/
theorem wakes_any {B : Nat} (w : World) (hE : EnvM B w) :
    Calls Tryz.prog 9 #[] w fun e w' => e = .returned (.bool true) ∧ Keep [] w w' := by
  have HE := Lib.hid hE
  obtain ⟨p, hp1, hp2⟩ := w_one
  have HP : Hid (Calls Tryz.prog 18 #[.string wB] w fun e w' => ∃ u S, e = .returned (.tuple #[u, .agg #[.int .i64 0, .int .i64 0]]) ∧ Lies (wB.size + 1 + 1) S w' u wL ∧ (∀ b, S b → w.heap.size ≤ b ∧ b < w'.heap.size) ∧ Keep [] w w') := parse_ok wB w hE (by decide) (by rw [w_brk]; decide) wL 5 w_msg
  have HPR : ∀ (S : Nat → Prop) (v : Value) W, EnvM B W → Lies (wB.size + 1 + 1) S W v wL → (∀ x, S x → x < W.heap.size) → Hid (Calls Tryz.prog 11 #[v] W fun e w' => e = .returned (.tuple #[.string wB, .int .i64 0]) ∧ Keep [] W w') := fun S v W h1 h2 h3 => by
    have := print_any (wB.size + 2) wL S v B W h1 h2 h3 (allQ_F okB_ok _ _ w_ok) (allQ_O ofB_ok _ _ w_of) w_bulk
    rw [w_form] at this
    exact this
  rw [hp1] at HP HPR
  clear hE hp1
  generalize wB.size + 1 = m at HP HPR
  unfold wB at HP HPR
  go_enter Tryz.func9, Tryz.ntmps9
  go_wp2_with fail
  refine HP.out.mono ?_
  rintro e w1 ⟨u, S, rfl, hL, hS, hk⟩
  have hE1 := HE.out.keep hk (by simp)
  obtain ⟨A, cap, rfl, _, hat⟩ := lies_open hL
  obtain ⟨b, o, cv, rfl, hb, hP, hC⟩ := hat 0 p rfl
  have hP' : PAt w1 b o p cv := by simpa using hP
  obtain ⟨Ac, cc, rfl⟩ := hC.formL
  rw [hp2] at hP'
  rw [List.length_singleton] at hL ⊢
  have hkA : Keep [] w1 (w1.alloc (.cells #[.int .i64 0, .int .i64 0] 36)) := (Keep.refl [] w1).alloc _
  have HPR2 := HPR S _ (w1.alloc (.cells #[.int .i64 0, .int .i64 0] 36)) (hE1.keep hkA (by simp)) (hL.keep hkA (by simp)) (fun x hx => by have := (hS x hx).2; simp; omega)
  have HB1 : Hid (Blk (w1.alloc (.cells #[.int .i64 0, .int .i64 0] 36)) w1.heap.size 36 #[.int .i64 0, .int .i64 0]) := Blk.new _ _ _
  have HP2 := Lib.hid (hP'.keep hkA hb)
  have HK2 := Lib.hid (hk.nil hkA)
  have hb2 : b < (w1.alloc (.cells #[.int .i64 0, .int .i64 0] 36)).heap.size := by simp; omega
  clear hat hP hP' hL hS hk hE1 hkA hC HPR
  go_wp2_with fail
  refine HPR2.out.mono ?_
  rintro e w2 ⟨rfl, hk2⟩
  have hx := HB1.out.keep hk2 (by simp)
  have x0 : w2.cell? ⟨w1.heap.size, 0, none⟩ = some (.int .i64 0) := hx.cell_eq rfl
  have x1 : w2.cell? ⟨w1.heap.size, 1, none⟩ = some (.int .i64 0) := hx.cell_eq rfl
  obtain ⟨a0, a1, a2, a3, a4, a5, a6⟩ := HP2.out.keep hk2 hb2
  have hbz : b < w2.heap.size := Nat.lt_of_lt_of_le hb2 hk2.size
  have HK3 := Lib.hid (HK2.out.nil hk2)
  clear hk2 hx
  go_wp2_with fail
  go_ret
  exact ⟨rfl, HK3.out⟩
/-- What message.Plain tells. -/
def plainT (s : ByteArray) : ByteArray := if 4096 < s.size ∨ ¬ brk s < 0 then ⟨#[]⟩ else ⟨(dressL false s.data.toList).toArray⟩
set_option maxRecDepth 100000 in
/-- message.Plain. -/
theorem mplain_any {B : Nat} (s : ByteArray) (w : World) (hE : EnvM B w) (hs : s.size ≤ 9223372036854775000) :
    Calls Tryz.prog 15 #[.string s] w fun e w' => e = .returned (.string (plainT s)) ∧ Keep [] w w' := by
  have HE := Lib.hid hE
  have HC := Lib.hid (check_any s w hs)
  have hfs := fun W => field_spot W (.int .i64 (spotErr s)) (.int .i64 (spotAt s))
  obtain ⟨t, ht⟩ : ∃ t, plainT s = t := ⟨_, rfl⟩
  rw [ht]
  by_cases h1 : 4096 < s.size
  · have HT := Lib.hid (show t = ⟨#[]⟩ by rw [← ht]; unfold plainT; rw [if_pos (.inl h1)])
    have e1 : (4096 : Int) < s.size := by omega
    clear ht hE
    go_enter Tryz.func15, Tryz.ntmps15
    go_wp2_with fail
    go_ret
    exact ⟨by rw [HT.out]; rfl, Keep.refl _ _⟩
  · have e1 : ¬ (4096 : Int) < s.size := by omega
    by_cases h2 : brk s < 0
    · have HT := Lib.hid (show t = ⟨(dressL false s.data.toList).toArray⟩ by rw [← ht]; unfold plainT; rw [if_neg (fun h => h.elim (fun h => h1 h) (fun h => h h2))])
      have HD : ∀ W, EnvM B W → Hid (Calls Tryz.prog 31 #[.string s, .bool false] W fun e w' => e = .returned (.string t) ∧ Keep [] W w') := fun W hW => by rw [HT.out]; exact dress_any s false W hW (by omega)
      have h3 : spotErr s = 0 := if_pos h2
      rw [h3] at HC hfs
      clear ht hE HT h2 h3
      go_enter Tryz.func15, Tryz.ntmps15
      go_wp2_with (first | (go_at_call 30; refine HC.out.mono ?_; rintro e w1 ⟨rfl, hb1⟩; have HK1 := Lib.hid (Keep.of_below (bs := []) hb1); clear hb1) | (go_at_call 31; refine (HD _ (HE.out.keep HK1.out (by simp))).out.mono ?_; rintro e w2 ⟨rfl, hk2⟩; have HK2 := Lib.hid (HK1.out.nil hk2); clear hk2))
      go_ret
      exact ⟨rfl, HK2.out⟩
    · have HT := Lib.hid (show t = ⟨#[]⟩ by rw [← ht]; unfold plainT; rw [if_pos (.inr h2)])
      have h3 : spotErr s = 6 := if_neg h2
      rw [h3] at HC hfs
      clear ht hE h2 h3
      go_enter Tryz.func15, Tryz.ntmps15
      go_wp2_with (go_at_call 30; refine HC.out.mono ?_; rintro e w1 ⟨rfl, hb1⟩; have HK1 := Lib.hid (Keep.of_below (bs := []) hb1); clear hb1)
      go_ret
      exact ⟨by rw [HT.out]; rfl, HK1.out⟩
end Go.Proofs.YtjldgcpmdcoejaaGreatDoor

namespace Go.Proofs.YtjldgcpmdcoejaaGreatDoor
open Go.RowKit

def inK (p q : PR) : Bool := decide (p.1 = q.1)
def inV (q p : PR) : Bool := decide (p.1 = q.1) && (decide (p.2 = q.2) || decide (q.2 = ⟨#[]⟩) || !decide (p.2 = ⟨#[]⟩))
theorem any_next {α : Type} {f : α → Bool} {l : List α} {m : Nat} {x : α} (h : l[m]? = some x) : (l.take (m + 1)).any f = ((l.take m).any f || f x) := by
  rw [take_snoc' h, List.any_append]; simp
theorem parted_in1 {t r s : List PR} (h : Parted t r s) (p : PR) (hp : p ∈ t) : (r ++ s).any (inK p) = true := by
  rw [List.any_eq_true]
  rcases h.2.2.2.2 p hp with ⟨q, hq, e⟩ | ⟨q, hq, e⟩
  · exact ⟨q, List.mem_append.2 (.inl hq), decide_eq_true e.symm⟩
  · exact ⟨q, List.mem_append.2 (.inr hq), decide_eq_true e.symm⟩
theorem parted_in2 {t r s : List PR} (h : Parted t r s) (q : PR) (hq : q ∈ r ++ s) : t.any (inV q) = true := by
  rw [List.any_eq_true]
  rcases List.mem_append.1 hq with hq | hq
  · obtain ⟨p, hp, e1, e2⟩ := h.2.2.1 q hq
    refine ⟨p, hp, ?_⟩
    unfold inV
    rw [decide_eq_true e1]
    by_cases h2 : q.2 = ⟨#[]⟩
    · rw [decide_eq_true h2]; simp
    · rw [decide_eq_true (e2 h2)]; rfl
  · obtain ⟨p, hp, e1, e2⟩ := h.2.2.2.1 q hq
    refine ⟨p, hp, ?_⟩
    unfold inV
    rw [decide_eq_true e1]
    by_cases h2 : q.2 = ⟨#[]⟩
    · rw [decide_eq_true h2]; simp
    · rw [decide_eq_false (e2 h2)]; simp
theorem rise_prev {t : List PR} (h : Rise t) {k : Nat} {y p : PR} (hy : t[k]? = some y) (hp : t[k + 1]? = some p) : Op.bytesLess y.1.toList p.1.toList = true := by
  rw [less_eq]
  obtain ⟨h1, rfl⟩ := List.getElem?_eq_some_iff.1 hy
  obtain ⟨h2, rfl⟩ := List.getElem?_eq_some_iff.1 hp
  exact List.pairwise_iff_getElem.1 h k (k + 1) h1 h2 (by omega)
set_option maxRecDepth 100000 in
set_option maxHeartbeats 4000000 in
/-- The law, walked. -/
theorem law_parts (n : Nat) (a b : List PT) (S : Nat → Prop) (va vb : Value) (B : Nat) (w : World) (hE : EnvM B w) (ha : Lies (n + 1) S w va a) (hb : Lies (n + 1) S w vb b) (hna : ∀ n c, va = .slice none n c → n = 0 ∧ c = 0) (hnb : ∀ n c, vb = .slice none n c → n = 0 ∧ c = 0)
    (hS : ∀ x, S x → x < w.heap.size) (hba : bulkF (n + 1) a ≤ 10000000) (hbb : bulkF (n + 1) b ≤ 10000000) :
    Calls Tryz.prog 6 #[va, vb] w fun e w' => e = .returned (.bool true) ∧ Keep [] w w' := by
  have hla := bulkL_len (bulkF n) a
  have hlb := bulkL_len (bulkF n) b
  have hal : a.length ≤ 10000000 := by simp only [bulkF] at hba; omega
  have hbl : b.length ≤ 10000000 := by simp only [bulkF] at hbb; omega
  obtain ⟨A1, c1, rfl, _, _⟩ := lies_open ha
  obtain ⟨A2, c2, rfl, _, _⟩ := lies_open hb
  have HW := Lib.hid (wakes_any w hE)
  have HSA : ∀ W, Keep [] w W → Hid (Calls Tryz.prog 10 #[.slice A1 a.length c1, .int .i64 0] W fun e w' => BoolRet e ∧ Keep [] W w') := fun W hW => small_any (n + 1) a 0 S _ W (ha.keep hW (by simp)) (by omega) (by omega) (by omega)
  have HSB : ∀ W, Keep [] w W → Hid (Calls Tryz.prog 10 #[.slice A2 b.length c2, .int .i64 0] W fun e w' => BoolRet e ∧ Keep [] W w') := fun W hW => small_any (n + 1) b 0 S _ W (hb.keep hW (by simp)) (by omega) (by omega) (by omega)
  have HNA : ∀ W, Keep [] w W → Hid (Calls Tryz.prog 20 #[.slice A1 a.length c1] W fun e w' => ∃ u, e = .returned u ∧ OwnP w' W.heap.size u (namF putR (n + 1) a []) ∧ Keep [] W w') := fun W hW => names_any (n + 1) a S _ W (ha.keep hW (by simp)) (fun x hx => Nat.lt_of_lt_of_le (hS x hx) hW.size) (by omega)
  have HNB : ∀ W, Keep [] w W → Hid (Calls Tryz.prog 20 #[.slice A2 b.length c2] W fun e w' => ∃ u, e = .returned u ∧ OwnP w' W.heap.size u (namF putR (n + 1) b []) ∧ Keep [] W w') := fun W hW => names_any (n + 1) b S _ W (hb.keep hW (by simp)) (fun x hx => Nat.lt_of_lt_of_le (hS x hx) hW.size) (by omega)
  have hbt : bulkF (n + 1) (a ++ b) ≤ 20000000 := by simp only [bulkF] at hba hbb ⊢; rw [nbulkL_append]; omega
  obtain ⟨ab, hab⟩ : ∃ ab, a ++ b = ab := ⟨_, rfl⟩
  have HNT : ∀ (A3 : Option Addr) (c3 B3 : Nat) W, w.heap.size ≤ B3 → OwnM n S W B3 (.slice A3 ab.length c3) ab → Keep [] w W → Hid (Calls Tryz.prog 20 #[.slice A3 ab.length c3] W fun e w' => ∃ u, e = .returned u ∧ OwnP w' W.heap.size u (namF putR (n + 1) ab []) ∧ Keep [] W w') := fun A3 c3 B3 W hB3 hO hW => by
    refine names_any (n + 1) ab (fun x => S x ∨ x ∈ (Value.slice A3 ab.length c3).ownBlock.toList) _ W (hO.lies (fun x hx => .inl hx) (fun x hx => .inr hx)) (fun x hx => ?_) (by rw [← hab]; omega)
    rcases hx with hx | hx
    · exact Nat.lt_of_lt_of_le (hS x hx) hW.size
    · exact (hO.lt x hx).2
  have HA := Lib.hid ha
  have HB := Lib.hid hb
  have HS := Lib.hid hS
  have HNIA := Lib.hid hna
  have HNIB := Lib.hid hnb
  have hP := names_both n a b
  rw [hab] at hP
  have HP := Lib.hid hP
  clear hP
  have hl1 := nam_len putR_len (n + 1) a []
  have hl2 := nam_len putR_len (n + 1) b []
  have hl3 := nam_len putR_len (n + 1) ab []
  simp only [List.length_nil, Nat.zero_add] at hl1 hl2 hl3
  generalize namF putR (n + 1) a [] = ra at *
  generalize namF putR (n + 1) b [] = rb at *
  generalize namF putR (n + 1) ab [] = rt at *
  have hra : ra.length ≤ 10000000 := by omega
  have hrb : rb.length ≤ 10000000 := by omega
  have hrt : rt.length ≤ 20000000 := by rw [hab] at hbt; omega
  obtain ⟨rs, hrs⟩ : ∃ rs, ra ++ rb = rs := ⟨_, rfl⟩
  have HRSL : Hid (rs.length = ra.length + rb.length) := by unfold Hid; rw [← hrs, List.length_append]
  have hrs2 : rs.length ≤ 20000000 := by have := HRSL.out; omega
  have HRS := Lib.hid hrs
  have HAB := Lib.hid hab
  clear hrs hab
  clear hE ha hb hS hba hbb hbt hl1 hl2 hl3 hla hlb hna hnb
  go_enter Tryz.func6, Tryz.ntmps6
  go_upto_region 6 with (first
      | (go_at_call 9; refine HW.out.mono ?_; rintro x w1 ⟨rfl, hk1⟩; have HK := Lib.hid hk1; clear hk1)
      | (go_at_call_of 10 (Value.slice A1 a.length c1); refine (HSA _ HK.out).out.mono ?_; rintro x w2 ⟨⟨q, rfl⟩, hk2⟩; have HK := Lib.hid (HK.out.nil hk2); clear hk2; cases q)
      | (go_at_call_of 10 (Value.slice A2 b.length c2); refine (HSB _ HK.out).out.mono ?_; rintro x w3 ⟨⟨q, rfl⟩, hk3⟩; have HK := Lib.hid (HK.out.nil hk3); clear hk3; cases q)
      | (go_at_call_of 20 (Value.slice A1 a.length c1); refine (HNA _ HK.out).out.mono ?_; rintro x w4 ⟨u4, rfl, hO4, hk4⟩; obtain ⟨A4, c4, rfl, _, _⟩ := hO4.form; have HO4 := Lib.hid (hO4.le (Nat.zero_le _)); have HK := Lib.hid (HK.out.nil hk4); clear hk4 hO4)
      | (go_at_call_of 20 (Value.slice A2 b.length c2); refine (HNB _ HK.out).out.mono ?_; rintro x w5 ⟨u5, rfl, hO5, hk5⟩; obtain ⟨A5, c5, rfl, _, _⟩ := hO5.form; have HO4 := Lib.hid (HO4.out.keep_nil hk5); have HO5 := Lib.hid (hO5.le (Nat.zero_le _)); have HK := Lib.hid (HK.out.nil hk5); clear hk5 hO5))
  · go_ret
    exact ⟨rfl, HK.out⟩
  · go_ret
    exact ⟨rfl, HK.out⟩
  go_wp2_with (first | (at_builtin; refine wpList_append_parts (f := n) (S := S) (l := []) (m := a) (r := a) (v := .slice (some ⟨w5.heap.size, 0, none⟩) 0 0) (u := .slice A1 a.length c1) rfl _ _ rfl rfl (empty_parts _ n S _ rfl) rfl (HA.out.keep (HK.out.alloc _) (by simp)) HNIA.out (fun x hx hc => Nat.lt_irrefl w5.heap.size (by have h1 := HS.out x hx; have h2 := HK.out.size; have h3 : x = w5.heap.size := (by simpa [Value.ownBlock] using hc); omega)) rfl (by first | omega | (simp <;> omega)) (by simp) ?_; intro A6 c6 w6 hO6 hk6; have HK6 := Lib.hid ((HK.out.alloc (.cells #[] 47)).trans hk6 (fun x hx => .inr (by have := HK.out.size; simp [Value.ownBlock] at hx <;> omega))); have HO6 := Lib.hid hO6; have hz6 := hk6.size; rw [World.size_alloc] at hz6; have HZ6 : Hid (w5.heap.size + 1 ≤ w6.heap.size) := hz6; clear hz6; have HK56 := Lib.hid (((Keep.refl [] w5).alloc (.cells #[] 47)).trans hk6 (fun x hx => .inr (by simp [Value.ownBlock] at hx <;> omega))); clear hO6 hk6) | (at_builtin; refine wpList_append_parts (f := n) (S := S) (l := a) (m := b) (r := ab) (v := .slice A6 a.length c6) (u := .slice A2 b.length c2) rfl _ _ rfl rfl HO6.out rfl (HB.out.keep HK6.out (by simp)) HNIB.out (fun x hx hc => by have := HS.out x hx; have := HK.out.size; have := (HO6.out.lt x hc).1; omega) HAB.out (by omega) (by have := HZ6.out; omega) ?_; intro A7 c7 w7 hO7 hk7; have HK57 := Lib.hid (HK56.out.trans hk7 (fun x hx => .inr (HO6.out.lt x hx).1)); have HO7 := Lib.hid hO7; clear hO7 hk7))
  refine (HNT A7 c7 w5.heap.size _ HK.out.size HO7.out (HK.out.nil HK57.out)).out.mono ?_
  rintro x w8 ⟨u8, rfl, hO8, hk8⟩
  obtain ⟨A8, c8, rfl, _, _⟩ := hO8.form
  have HK8 := Lib.hid ((HK.out.nil HK57.out).nil hk8)
  have HX4 := Lib.hid (HO4.out.keep_nil (HK57.out.nil hk8))
  have HX5 := Lib.hid (HO5.out.keep_nil (HK57.out.nil hk8))
  have HX8 := Lib.hid (hO8.le (Nat.zero_le _))
  clear hO8 hk8 HO4 HO5 HO6 HO7 HK6 HZ6 HK56 HK57 HK HA HB HNA HNB HNT HSA HSB HW HNIA HNIB HS
  go_wp2
  go_loopw [8, 41] (fun k8 k41 wx => ∃ m : Nat, m ≤ rt.length ∧ k8 = .int .i64 m ∧ k41 = .int .i64 m ∧ Keep [] w8 wx) (fun _ i _ => rt.length - (intOf i).toNat)
  case atStart => exact ⟨0, Nat.zero_le _, rfl, rfl, Keep.refl _ _⟩
  case round =>
    obtain ⟨m, hm, rfl, rfl, hK1⟩ := hrel
    have HK1 := Lib.hid hK1
    by_cases hlt : m < rt.length
    · obtain ⟨p, hp⟩ : ∃ p, rt[m]? = some p := ⟨_, List.getElem?_eq_getElem hlt⟩
      have hI1 := parted_in1 HP.out p (List.mem_of_getElem? hp)
      rw [HRS.out] at hI1
      have HI1 := Lib.hid hI1
      obtain ⟨A11, c11, he, _, hat⟩ := (HX8.out.keep_nil hK1).form
      injection he with e1 e2 e3
      subst e1; subst e3
      obtain ⟨g8, rfl, _, hg8, x0, x1⟩ := hat m p hp
      have HAT := Lib.hid hat
      have HPM := Lib.hid hp
      clear hat hp hI1 hK1
      have hbx : Blk (wr.alloc (.cells #[.string p.1, .string p.2] 44)) wr.heap.size 44 #[.string p.1, .string p.2] := Blk.new _ _ _
      have HBX := Lib.hid hbx
      clear hbx
      go_wp2_with (first | (at_builtin; refine wpList_append_pairs (B := wr.heap.size + 1) (l := []) (m := ra) (r := ra) (v := .slice (some ⟨wr.heap.size + 1, 0, none⟩) 0 0) (u := .slice A4 ra.length c4) rfl _ _ rfl rfl (empty_pairs _ _ (by simp)) rfl (HX4.out.keep_nil (HK1.out.nil (by repeat (first | exact Keep.refl _ _ | refine Keep.alloc ?_ _ | refine Keep.drewN ?_ _ | refine Keep.drew ?_)))) rfl (by first | omega | (simp <;> omega)) (by simp) ?_; intro A9 c9 w9 q1 q2; have HQ9 := Lib.hid q1; have HKA : Hid (Keep [] (wr.alloc (.cells #[.string p.1, .string p.2] 44)) w9) := ((Keep.refl [] (wr.alloc (.cells #[.string p.1, .string p.2] 44))).alloc (.cells #[] 44)).trans q2 (fun x hx => .inr (by have h3 : x = wr.heap.size + 1 := (by simpa [Value.ownBlock] using hx); rw [h3]; simp)); clear q1 q2) | (at_builtin; refine wpList_append_pairs (B := wr.heap.size + 1) (l := ra) (m := rb) (r := rs) (v := .slice A9 ra.length c9) (u := .slice A5 rb.length c5) rfl _ _ rfl rfl HQ9.out rfl (HX5.out.keep_nil ((HK1.out.nil (by repeat (first | exact Keep.refl _ _ | refine Keep.alloc ?_ _ | refine Keep.drewN ?_ _ | refine Keep.drew ?_))).nil HKA.out)) HRS.out (by omega) (by have := HKA.out.size; simpa using this) ?_; intro A10 c10 w10 q1 q2; have HQ10 := Lib.hid q1; have HKB : Hid (Keep [] (wr.alloc (.cells #[.string p.1, .string p.2] 44)) w10) := HKA.out.trans q2 (fun x hx => .inr (by have := (HQ9.out.lt x hx).1; simpa using this)); clear q1 q2))
      clear x0 x1
      have HKT : Hid (Keep [] w8 w10) := (HK1.out.alloc _).nil HKB.out
      have HBY : Hid (Blk w10 wr.heap.size 44 #[.string p.1, .string p.2]) := HBX.out.keep HKB.out (by simp)
      clear HBX HKA HKB HQ9
      generalize wr.heap.size = pb at *
      go_loopw [11, 51] (fun b k51 wx => ∃ j : Nat, j ≤ rs.length ∧ k51 = .int .i64 j ∧ b = .bool ((rs.take j).any (inK p)) ∧ Keep [] w10 wx) (fun _ i _ => rs.length - (intOf i).toNat)
      case atStart => exact ⟨0, Nat.zero_le _, rfl, rfl, Keep.refl _ _⟩
      case round =>
        obtain ⟨j, hj, rfl, rfl, hK2⟩ := hrel
        have HK2 := Lib.hid hK2
        have hbx2 := HBY.out.keep hK2 (by simp)
        have b0 := hbx2.cell_eq (i := 0) (v := .string p.1) rfl
        have hbl := hbx2.lt
        by_cases hlt2 : j < rs.length
        · obtain ⟨q, hq⟩ : ∃ q, rs[j]? = some q := ⟨_, List.getElem?_eq_getElem hlt2⟩
          obtain ⟨A12, c12, he, _, hat⟩ := (HQ10.out.keep_nil hK2).form
          injection he with e1 e2 e3
          subst e1; subst e3
          obtain ⟨g10, rfl, _, hg10, y0, y1⟩ := hat j q hq
          have b1 : (wr.alloc (.cells #[.string q.1, .string q.2] 44)).cell? ⟨pb, 0, none⟩ = some (.string p.1) := (((Keep.refl [] wr).alloc _).cell (p := ⟨pb, 0, none⟩) hbl (by simp)).trans b0
          have hbe := bytes_beq p.1 q.1
          have hnx := any_next (f := inK p) hq
          have hin : inK p q = decide (p.1 = q.1) := rfl
          rw [← hin] at hbe
          rw [hin] at hnx
          rw [← hin] at hnx
          have HNX := Lib.hid hnx
          clear hat hq hK2 hbx2 hnx hin
          generalize inK p q = iq at *
          generalize (rs.take j).any (inK p) = bb at *
          cases bb
          · cases iq
            · go_wp2
              go_roundw
              case rel => exact ⟨j + 1, by omega, by go_num, by rw [HNX.out]; rfl, HK2.out.alloc _⟩
              case measure => simp [intOf]; omega
            · go_wp2
              go_roundw
              case rel => exact ⟨j + 1, by omega, by go_num, by rw [HNX.out]; rfl, HK2.out.alloc _⟩
              case measure => simp [intOf]; omega
          · go_wp2
            go_roundw
            case rel => exact ⟨j + 1, by omega, by go_num, by rw [HNX.out]; rfl, HK2.out.alloc _⟩
            case measure => simp [intOf]; omega
        · obtain rfl : j = rs.length := by omega
          rw [List.take_length, HI1.out]
          have HKR : Hid (Keep [] w8 wr) := HKT.out.nil hK2
          clear hK2 hbx2 HI1
          cases m with
          | zero =>
            go_wp2
            go_quiet (fail)
            go_wp2
            go_roundw
            case rel => exact ⟨1, by omega, rfl, rfl, HKR.out.drewN _⟩
            case measure => simp [intOf]; omega
          | succ k =>
            obtain ⟨y, hy⟩ : ∃ y, rt[k]? = some y := ⟨_, List.getElem?_eq_getElem (by omega)⟩
            have hlss := rise_prev HP.out.1 hy HPM.out
            obtain ⟨A13, c13, he, _, hat⟩ := (HX8.out.keep_nil HKR.out).form
            injection he with e1 e2 e3
            subst e1; subst e3
            obtain ⟨g13, hA13, _, hg13, y0, y1⟩ := hat k y hy
            obtain rfl : g8 = g13 := by injection hA13 with h; injection h
            have s1 : IntKind.i64.wrap ((k : Int) + 1 - 1) = k := by rw [show (k : Int) + 1 - 1 = k by omega]; exact IntWalk.i64_in _ (by omega)
            have s2 : (k : Int) < rt.length := by omega
            have s3 : (0 : Int) < (k : Int) + 1 := by omega
            clear hat hy
            go_wp2
            go_quiet (fail)
            go_wp2
            go_roundw
            case rel => exact ⟨k + 1 + 1, by omega, by go_num, by go_num, HKR.out.drewN _⟩
            case measure => simp [intOf]; omega
    · obtain rfl : m = rt.length := by omega
      clear hK1
      go_wp2_with (first | (at_builtin; refine wpList_append_pairs (B := wr.heap.size) (l := []) (m := ra) (r := ra) (v := .slice (some ⟨wr.heap.size, 0, none⟩) 0 0) (u := .slice A4 ra.length c4) rfl _ _ rfl rfl (empty_pairs _ _ rfl) rfl (HX4.out.keep_nil (HK1.out.nil (by repeat (first | exact Keep.refl _ _ | refine Keep.alloc ?_ _ | refine Keep.drewN ?_ _ | refine Keep.drew ?_)))) rfl (by first | omega | (simp <;> omega)) (by simp) ?_; intro A9 c9 w9 q1 q2; have HQ9 := Lib.hid q1; have HKA : Hid (Keep [] wr w9) := ((Keep.refl [] wr).alloc (.cells #[] 44)).trans q2 (fun x hx => .inr (by have h3 : x = wr.heap.size := (by simpa [Value.ownBlock] using hx); rw [h3]; exact Nat.le_refl _)); clear q1 q2) | (at_builtin; refine wpList_append_pairs (B := wr.heap.size) (l := ra) (m := rb) (r := rs) (v := .slice A9 ra.length c9) (u := .slice A5 rb.length c5) rfl _ _ rfl rfl HQ9.out rfl (HX5.out.keep_nil (HK1.out.nil HKA.out)) HRS.out (by omega) HKA.out.size ?_; intro A10 c10 w10 q1 q2; have HQ10 := Lib.hid q1; have HKB : Hid (Keep [] wr w10) := HKA.out.trans q2 (fun x hx => .inr (HQ9.out.lt x hx).1); clear q1 q2))
      have HKT : Hid (Keep [] w8 w10) := HK1.out.nil HKB.out
      go_loopw [90] (fun k wx => ∃ m : Nat, m ≤ rs.length ∧ k = .int .i64 m ∧ Keep [] w10 wx) (fun i _ => rs.length - (intOf i).toNat)
      case atStart => exact ⟨0, Nat.zero_le _, rfl, Keep.refl _ _⟩
      case round =>
        obtain ⟨m, hm, rfl, hK3⟩ := hrel
        have HK3 := Lib.hid hK3
        by_cases hlt : m < rs.length
        · obtain ⟨q, hq⟩ : ∃ q, rs[m]? = some q := ⟨_, List.getElem?_eq_getElem hlt⟩
          have hI2 := parted_in2 HP.out q (by rw [HRS.out]; exact List.mem_of_getElem? hq)
          have HI2 := Lib.hid hI2
          obtain ⟨A11, c11, he, _, hat⟩ := (HQ10.out.keep_nil hK3).form
          injection he with e1 e2 e3
          subst e1; subst e3
          obtain ⟨g10, rfl, _, hg10, y0, y1⟩ := hat m q hq
          have hbx : Blk (wr.alloc (.cells #[.string q.1, .string q.2] 44)) wr.heap.size 44 #[.string q.1, .string q.2] := Blk.new _ _ _
          have hKx : Keep [] w10 (wr.alloc (.cells #[.string q.1, .string q.2] 44)) := hK3.alloc _
          have HBX := Lib.hid hbx
          have HKX := Lib.hid hKx
          clear hat hq hI2 hK3 hbx hKx
          go_wp2
          clear y0 y1
          generalize wr.alloc (.cells #[.string q.1, .string q.2] 44) = W3 at *
          generalize wr.heap.size = pb at *
          go_loopw [16, 96] (fun b k wx => ∃ j : Nat, j ≤ rt.length ∧ k = .int .i64 j ∧ b = .bool ((rt.take j).any (inV q)) ∧ Keep [] W3 wx) (fun _ i _ => rt.length - (intOf i).toNat)
          case atStart => exact ⟨0, Nat.zero_le _, rfl, rfl, Keep.refl _ _⟩
          case round =>
            obtain ⟨j, hj, rfl, rfl, hK4⟩ := hrel
            have HK4 := Lib.hid hK4
            have hbx2 := HBX.out.keep hK4 (by simp)
            have b0 := hbx2.cell_eq (i := 0) (v := .string q.1) rfl
            have b1 := hbx2.cell_eq (i := 1) (v := .string q.2) rfl
            have hbl := hbx2.lt
            by_cases hlt2 : j < rt.length
            · obtain ⟨p, hp⟩ : ∃ p, rt[j]? = some p := ⟨_, List.getElem?_eq_getElem hlt2⟩
              obtain ⟨A12, c12, he, _, hat⟩ := (HX8.out.keep_nil ((HKT.out.nil HKX.out).nil hK4)).form
              injection he with e1 e2 e3
              subst e1; subst e3
              obtain ⟨g8, rfl, _, hg8, x0, x1⟩ := hat j p hp
              have b2 : (wr.alloc (.cells #[.string p.1, .string p.2] 44)).cell? ⟨pb, 0, none⟩ = some (.string q.1) := (((Keep.refl [] wr).alloc _).cell (p := ⟨pb, 0, none⟩) hbl (by simp)).trans b0
              have b3 : (wr.alloc (.cells #[.string p.1, .string p.2] 44)).cell? ⟨pb, 1, none⟩ = some (.string q.2) := (((Keep.refl [] wr).alloc _).cell (p := ⟨pb, 1, none⟩) hbl (by simp)).trans b1
              have h1 := bytes_beq p.1 q.1
              have h2 := bytes_beq p.2 q.2
              have h3 := bytes_beq q.2 ⟨#[]⟩
              have h4 := bytes_beq p.2 ⟨#[]⟩
              rw [show ByteArray.toList ⟨#[]⟩ = [] by rw [ByteArray.toList_eq]] at h3 h4
              have hnx := any_next (f := inV q) hp
              clear hat hp hK4 hbx2
              cases hbb : (rt.take j).any (inV q)
              case true =>
                rw [hbb] at hnx
                have HNX := Lib.hid hnx
                clear hnx hbb h1 h2 h3 h4
                have HN2 : Hid ((rt.take (j + 1)).any (inV q) = true) := by unfold Hid; rw [HNX.out]; unfold inV; simp []
                go_wp2
                go_roundw
                case rel => exact ⟨j + 1, by omega, by go_num, by rw [HN2.out], HK4.out.alloc _⟩
                case measure => simp [intOf]; omega
              case false =>
                rw [hbb] at hnx
                have HNX := Lib.hid hnx
                clear hnx hbb
                by_cases k1 : p.1 = q.1
                case neg =>
                  rw [decide_eq_false k1] at h1
                  clear h2 h3 h4
                  have HN2 : Hid ((rt.take (j + 1)).any (inV q) = false) := by unfold Hid; rw [HNX.out]; unfold inV; simp [k1]
                  clear k1
                  go_wp2
                  go_roundw
                  case rel => exact ⟨j + 1, by omega, by go_num, by rw [HN2.out], HK4.out.alloc _⟩
                  case measure => simp [intOf]; omega
                case pos =>
                  rw [decide_eq_true k1] at h1
                  by_cases k2 : p.2 = q.2
                  case pos =>
                    rw [decide_eq_true k2] at h2
                    have HN2 : Hid ((rt.take (j + 1)).any (inV q) = true) := by unfold Hid; rw [HNX.out]; unfold inV; simp [k1, k2]
                    clear k1 k2 h3 h4
                    go_wp2
                    go_roundw
                    case rel => exact ⟨j + 1, by omega, by go_num, by rw [HN2.out], HK4.out.alloc _⟩
                    case measure => simp [intOf]; omega
                  case neg =>
                    rw [decide_eq_false k2] at h2
                    by_cases k3 : q.2 = ⟨#[]⟩
                    case pos =>
                      rw [decide_eq_true k3] at h3
                      have HN2 : Hid ((rt.take (j + 1)).any (inV q) = true) := by unfold Hid; rw [HNX.out]; unfold inV; simp [k1, k3]
                      clear k1 k2 k3 h4
                      go_wp2
                      go_roundw
                      case rel => exact ⟨j + 1, by omega, by go_num, by rw [HN2.out], HK4.out.alloc _⟩
                      case measure => simp [intOf]; omega
                    case neg =>
                      rw [decide_eq_false k3] at h3
                      by_cases k4 : p.2 = ⟨#[]⟩
                      case pos =>
                        rw [decide_eq_true k4] at h4
                        have HN2 : Hid ((rt.take (j + 1)).any (inV q) = false) := by unfold Hid; rw [HNX.out]; unfold inV; rw [decide_eq_true k1, decide_eq_false k2, decide_eq_false k3, decide_eq_true k4]; rfl
                        clear k1 k2 k3 k4
                        go_wp2
                        go_roundw
                        case rel => exact ⟨j + 1, by omega, by go_num, by rw [HN2.out], HK4.out.alloc _⟩
                        case measure => simp [intOf]; omega
                      case neg =>
                        rw [decide_eq_false k4] at h4
                        have HN2 : Hid ((rt.take (j + 1)).any (inV q) = true) := by unfold Hid; rw [HNX.out]; unfold inV; simp [k1, k3, k4]
                        clear k1 k2 k3 k4
                        go_wp2
                        go_roundw
                        case rel => exact ⟨j + 1, by omega, by go_num, by rw [HN2.out], HK4.out.alloc _⟩
                        case measure => simp [intOf]; omega
            · obtain rfl : j = rt.length := by omega
              rw [List.take_length, HI2.out]
              have HKR : Hid (Keep [] w10 wr) := HKX.out.nil hK4
              clear hK4 hbx2 HI2
              go_wp2
              go_roundw
              case rel => exact ⟨m + 1, by omega, by go_num, HKR.out⟩
              case measure => simp [intOf]; omega
        · obtain rfl : m = rs.length := by omega
          clear hK3
          go_wp2
          go_ret
          exact ⟨rfl, (HK8.out.nil HKT.out).nil HK3.out⟩
end Go.Proofs.YtjldgcpmdcoejaaGreatDoor

namespace Go.Proofs.YtjldgcpmdcoejaaGreatDoor
open Go.ChangeShapes Go.WideShapes Go.ChangeAt Go.RowKit

/-- The blocks that there are. -/
abbrev InW (w : World) : Nat → Prop := fun x => x < w.heap.size
theorem cellsPart : Tryz.prog.cellsOf 47 = 7 := by kernel_rfl
theorem cellsCase : Tryz.prog.cellsOf 51 = 2 := by kernel_rfl
theorem cellsInt : Tryz.prog.cellsOf 3 = 1 := by kernel_rfl
theorem cellsStr : Tryz.prog.cellsOf 9 = 1 := by kernel_rfl
theorem cellsParts : Tryz.prog.cellsOf 22 = 1 := by kernel_rfl
theorem cellsCases : Tryz.prog.cellsOf 45 = 1 := by kernel_rfl
section
variable {H : Type} {enc : TypeId × Value → H} {w : World} {base : Nat} {spare : Nat → Bool} {held : Bool}
theorem up_lit (k : IntKind) (z : Int) : Rows.uptoBulk (DataW.lit (H := H) (.int k z)) = 1 := by simp [Rows.uptoBulk]
theorem up_str (t : ByteArray) : Rows.uptoBulk (DataW.lit (H := H) (.string t.data.toList)) = t.size + 1 := by
  simp [Rows.uptoBulk]
theorem up_append (a b : List (DataW H)) : Rows.uptoBulkAll (a ++ b) = Rows.uptoBulkAll a + Rows.uptoBulkAll b := by
  induction a with
  | nil => simp [Rows.uptoBulkAll]
  | cons x r ih => simp only [List.cons_append, Rows.uptoBulkAll, ih]; omega
theorem up_at : ∀ (l : List (DataW H)) (i : Nat) (d : DataW H), l[i]? = some d → Rows.uptoBulk d ≤ Rows.uptoBulkAll l
  | x :: r, 0, d, h => by simp at h; subst h; simp only [Rows.uptoBulkAll]; omega
  | x :: r, i + 1, d, h => by have := up_at r i d (by simpa using h); simp only [Rows.uptoBulkAll]; omega
theorem flatten_at {size : Nat} : ∀ (rows : List (List Value)) (_ : ∀ (i : Nat) r, rows[i]? = some r → r.length = size) (_ : 0 < size) (j : Nat) (u : Value), rows.flatten[j]? = some u →
    ∃ r, rows[j / size]? = some r ∧ r[j % size]? = some u
  | [], _, _, j, u, h => by simp at h
  | r :: rows, hr, hs, j, u, h => by
    have h0 := hr 0 r rfl
    rw [List.flatten_cons] at h
    by_cases hj : j < size
    · rw [List.getElem?_append_left (by omega)] at h
      exact ⟨r, by rw [Nat.div_eq_of_lt hj]; rfl, by rw [Nat.mod_eq_of_lt hj]; exact h⟩
    · rw [List.getElem?_append_right (by omega), h0] at h
      obtain ⟨r', h1, h2⟩ := flatten_at rows (fun i r h => hr (i + 1) r (by simpa using h)) hs (j - size) u h
      have e : j = (j - size) + size := by omega
      refine ⟨r', ?_, ?_⟩
      · rw [e, Nat.add_div_right _ hs]; simpa using h1
      · rw [e, Nat.add_mod_right]; exact h2
theorem open_rows {t e : TypeId} {fuel size : Nat} {c : Value} {x : DataW H × List MemPlace} (ht : Tryz.prog.underlying t = some (.slice e)) (he : Tryz.prog.cellsOf e = size) (hs : 0 < size)
    (h : DataW.trod enc Tryz.prog w base spare held fuel t [c] = some x) :
    ∃ (rows : List (List Value)) (ds : List (DataW H)) (m : Nat), ds.length = rows.length ∧ RdC (InW w) w c rows.length rows.flatten ∧ Rows.uptoBulkAll ds + 1 ≤ Rows.uptoBulk x.1 ∧
      ∀ (i : Nat) r d, rows[i]? = some r → ds[i]? = some d → r.length = size ∧ ∃ pl, DataW.trod enc Tryz.prog w base spare held m e r = some (d, pl) := by
  rcases Deep.open_slice ht h with ⟨hc, rfl⟩ | ⟨a, len, cap, m, n', D, Pl, hc, hb, hl, hm, hmm, rfl, hx⟩
  · simp at hc
    subst hc
    exact ⟨[], [], 0, rfl, RdC.nil _ w, by simp [Rows.uptoBulkAll, Rows.uptoBulk], fun i r d h => by simp at h⟩
  · simp at hc
    subst hc
    have hlm : len ≤ m := by rw [hmm]; split <;> omega
    rw [he] at hx
    have hx2 : ∀ i, i < len → ∃ r : List Value, r.length = size ∧ (∀ j, j < size → w.cell? (a.add (i * size + j)) = r[j]?) ∧ DataW.trod enc Tryz.prog w base spare held n' e r = some (D i, Pl i) := fun i hi => by
      obtain ⟨cs', h1, h2⟩ := hx i (by omega)
      obtain ⟨_, h4, h3⟩ := World.cells?_some h1
      exact ⟨cs', h4, fun j hj => by rw [← add_of_add]; exact h3 j hj, h2⟩
    have hI : Inhabited (List Value) := ⟨[]⟩
    obtain ⟨f, hf⟩ := Deep.choose_lt hx2
    have hrow : ∀ (i : Nat) r, ((List.range len).map f)[i]? = some r → i < len ∧ r = f i := fun i r h => by
      have hi : i < len := by have := (List.getElem?_eq_some_iff.1 h).1; simpa using this
      rw [List.getElem?_map, List.getElem?_range hi] at h
      exact ⟨hi, by simpa using h.symm⟩
    refine ⟨(List.range len).map f, (List.range len).map D, n', by simp, ⟨some a, cap, by simp, by simpa using hl, hm, fun hne => ?_⟩, ?_, fun i r d h1 h2 => ?_⟩
    · have hlen : 0 < len := by simpa using hne
      have h00 := (hf 0 hlen).2.1 0 hs
      obtain ⟨r0, hr0⟩ : ∃ u, (f 0)[0]? = some u := ⟨_, List.getElem?_eq_getElem (by rw [(hf 0 hlen).1]; exact hs)⟩
      have hsp : a.spot = none ∧ a.block < w.heap.size := by
        rw [show a.add (0 * size + 0) = a by simp [Addr.add], hr0] at h00
        have h01 := h00
        unfold World.cell? at h01
        split at h01
        · rename_i heq
          refine ⟨?_, (Array.getElem?_eq_some_iff.1 heq).1⟩
          cases hs : a.spot with
          | none => rfl
          | some _ => rw [hs] at h01; simp at h01
        · cases h01
      obtain ⟨b, o, sp⟩ := a
      obtain ⟨hs1, hs2⟩ := hsp
      simp only at hs1 hs2
      subst hs1
      refine ⟨b, o, rfl, hs2, hs2, fun j u hu => ?_⟩
      obtain ⟨r, h1, h2⟩ := flatten_at ((List.range len).map f) (size := size) (fun i r h => by obtain ⟨hi, rfl⟩ := hrow i r h; exact (hf i hi).1) hs j u hu
      obtain ⟨hi, rfl⟩ := hrow _ _ h1
      have := (hf (j / size) hi).2.1 (j % size) (Nat.mod_lt _ hs)
      rw [h2, show j / size * size + j % size = j by rw [Nat.mul_comm]; exact Nat.div_add_mod ..] at this
      rw [← this]
      unfold Addr.add
      split <;> simp_all
    · simp only [Rows.uptoBulk]; omega
    · obtain ⟨hi, rfl⟩ := hrow i r h1
      rw [List.getElem?_map, List.getElem?_range hi] at h2
      obtain rfl : D i = d := by simpa using h2
      exact ⟨(hf i hi).1, _, (hf i hi).2.2⟩
set_option maxRecDepth 100000 in
theorem open_part {n : Nat} {cs : List Value} {d : DataW H} {pl : List MemPlace} (h : DataW.trod enc Tryz.prog w base spare held n 47 cs = some (d, pl)) :
    ∃ (k : Int) (tx nm ty st : ByteArray) (off : Int) (cv : Value) (y : DataW H × List MemPlace) (m : Nat), cs = [.int .i64 k, .string tx, .string nm, .string ty, .string st, .int .i64 off, cv] ∧
      DataW.trod enc Tryz.prog w base spare held m 45 [cv] = some y ∧ 1 + tx.size + nm.size + ty.size + st.size + Rows.uptoBulk y.1 ≤ Rows.uptoBulk d := by
  obtain ⟨xs, m, rfl, hx, hl, hxl, hall⟩ := DataW.trod_struct Tryz.underlying47 h
  simp only [Prod.mk.injEq] at hx
  obtain ⟨rfl, _⟩ := hx
  rw [cellsPart] at hl
  match cs, hl with
  | [c0, c1, c2, c3, c4, c5, c6], _ =>
    have h0 : DataW.trod enc Tryz.prog w base spare held m 3 (([c0, c1, c2, c3, c4, c5, c6].drop 0).take (Tryz.prog.cellsOf 3)) = xs[0]? := hall 0 _ rfl
    have h1 : DataW.trod enc Tryz.prog w base spare held m 9 (([c0, c1, c2, c3, c4, c5, c6].drop 1).take (Tryz.prog.cellsOf 9)) = xs[1]? := hall 1 _ rfl
    have h2 : DataW.trod enc Tryz.prog w base spare held m 9 (([c0, c1, c2, c3, c4, c5, c6].drop 2).take (Tryz.prog.cellsOf 9)) = xs[2]? := hall 2 _ rfl
    have h3 : DataW.trod enc Tryz.prog w base spare held m 9 (([c0, c1, c2, c3, c4, c5, c6].drop 3).take (Tryz.prog.cellsOf 9)) = xs[3]? := hall 3 _ rfl
    have h4 : DataW.trod enc Tryz.prog w base spare held m 9 (([c0, c1, c2, c3, c4, c5, c6].drop 4).take (Tryz.prog.cellsOf 9)) = xs[4]? := hall 4 _ rfl
    have h5 : DataW.trod enc Tryz.prog w base spare held m 3 (([c0, c1, c2, c3, c4, c5, c6].drop 5).take (Tryz.prog.cellsOf 3)) = xs[5]? := hall 5 _ rfl
    have h6 : DataW.trod enc Tryz.prog w base spare held m 45 (([c0, c1, c2, c3, c4, c5, c6].drop 6).take (Tryz.prog.cellsOf 45)) = xs[6]? := hall 6 _ rfl
    rw [cellsInt] at h0 h5
    rw [cellsStr] at h1 h2 h3 h4
    rw [cellsCases] at h6
    match xs, hxl with
    | [y0, y1, y2, y3, y4, y5, y6], _ =>
      obtain ⟨k, e0, rfl, _⟩ := DataW.trod_int Tryz.underlying3 h0
      obtain ⟨t1, e1, rfl, _⟩ := DataW.trod_string Tryz.underlying9 h1
      obtain ⟨t2, e2, rfl, _⟩ := DataW.trod_string Tryz.underlying9 h2
      obtain ⟨t3, e3, rfl, _⟩ := DataW.trod_string Tryz.underlying9 h3
      obtain ⟨t4, e4, rfl, _⟩ := DataW.trod_string Tryz.underlying9 h4
      obtain ⟨z, e5, rfl, _⟩ := DataW.trod_int Tryz.underlying3 h5
      simp at e0 e1 e2 e3 e4 e5
      subst e0 e1 e2 e3 e4 e5
      refine ⟨k, t1, t2, t3, t4, z, c6, y6, m, rfl, by simpa using h6, ?_⟩
      simp only [List.map_cons, List.map_nil, Rows.uptoBulk.eq_def (.agg _), Rows.uptoBulkAll, up_str, up_lit]
      omega
set_option maxRecDepth 100000 in
theorem open_case {n : Nat} {cs : List Value} {d : DataW H} {pl : List MemPlace} (h : DataW.trod enc Tryz.prog w base spare held n 51 cs = some (d, pl)) :
    ∃ (key : ByteArray) (pv : Value) (y : DataW H × List MemPlace) (m : Nat), cs = [.string key, pv] ∧
      DataW.trod enc Tryz.prog w base spare held m 22 [pv] = some y ∧ 1 + key.size + Rows.uptoBulk y.1 ≤ Rows.uptoBulk d := by
  obtain ⟨xs, m, rfl, hx, hl, hxl, hall⟩ := DataW.trod_struct Tryz.underlying51 h
  simp only [Prod.mk.injEq] at hx
  obtain ⟨rfl, _⟩ := hx
  rw [cellsCase] at hl
  match cs, hl with
  | [c0, c1], _ =>
    have h0 : DataW.trod enc Tryz.prog w base spare held m 9 (([c0, c1].drop 0).take (Tryz.prog.cellsOf 9)) = xs[0]? := hall 0 _ rfl
    have h1 : DataW.trod enc Tryz.prog w base spare held m 22 (([c0, c1].drop 1).take (Tryz.prog.cellsOf 22)) = xs[1]? := hall 1 _ rfl
    rw [cellsStr] at h0
    rw [cellsParts] at h1
    match xs, hxl with
    | [y0, y1], _ =>
      obtain ⟨t0, e0, rfl, _⟩ := DataW.trod_string Tryz.underlying9 h0
      simp at e0
      subst e0
      refine ⟨t0, c1, y1, m, rfl, by simpa using h1, ?_⟩
      simp only [List.map_cons, List.map_nil, Rows.uptoBulk.eq_def (.agg _), Rows.uptoBulkAll, up_str]
      omega
theorem build_parts {N : Nat} {S : Nat → Prop} : ∀ (rows : List (List Value)) (ds : List (DataW H)), ds.length = rows.length →
    (∀ (i : Nat) r d, rows[i]? = some r → ds[i]? = some d → ∃ (p : PT) (cv : Value), r = p.cells cv ∧ LiesC N S w cv p.cs ∧ ∀ m, 1 + p.tx.size + p.nm.size + p.ty.size + p.st.size + bulkC (bulkF m) p.cs ≤ Rows.uptoBulk d) →
    ∃ (l : List PT) (vs : List Value), l.length = rows.length ∧ vs.length = l.length ∧ rows.flatten = partC l vs ∧ (∀ (i : Nat) (p : PT) (cv : Value), l[i]? = some p → vs[i]? = some cv → LiesC N S w cv p.cs) ∧ ∀ m, bulkL (bulkF m) l ≤ Rows.uptoBulkAll ds
  | [], [], _, _ => ⟨[], [], rfl, rfl, rfl, fun i p cv h => by simp at h, fun m => Nat.zero_le _⟩
  | r :: rows, d :: ds, hl, hq => by
    obtain ⟨p, cv, rfl, h1, h2⟩ := hq 0 r d rfl rfl
    obtain ⟨l, vs, g1, g2, g3, g4, g5⟩ := build_parts rows ds (by simpa using hl) fun i r d h h' => hq (i + 1) r d (by simpa using h) (by simpa using h')
    refine ⟨p :: l, cv :: vs, by simp [g1], by simp [g2], by rw [List.flatten_cons, g3]; rfl, fun i q u hi hu => ?_, fun m => ?_⟩
    · cases i with
      | zero => simp at hi hu; subst hi; subst hu; exact h1
      | succ i => exact g4 i q u (by simpa using hi) (by simpa using hu)
    · have := h2 m; have := g5 m
      simp only [bulkL, Rows.uptoBulkAll]; omega
theorem build_cases {N : Nat} {S : Nat → Prop} : ∀ (rows : List (List Value)) (ds : List (DataW H)), ds.length = rows.length →
    (∀ (i : Nat) r d, rows[i]? = some r → ds[i]? = some d → ∃ (c : CT) (pv : Value), r = [.string c.1, pv] ∧ Lies N S w pv c.2 ∧ ∀ m, 1 + c.1.size + bulkF m c.2 ≤ Rows.uptoBulk d) →
    ∃ (l : List CT) (us : List Value), l.length = rows.length ∧ us.length = l.length ∧ rows.flatten = caseC l us ∧ (∀ (i : Nat) (c : CT) (pv : Value), l[i]? = some c → us[i]? = some pv → Lies N S w pv c.2) ∧ ∀ m, bulkC (bulkF m) l ≤ Rows.uptoBulkAll ds
  | [], [], _, _ => ⟨[], [], rfl, rfl, rfl, fun i p cv h => by simp at h, fun m => Nat.zero_le _⟩
  | r :: rows, d :: ds, hl, hq => by
    obtain ⟨c, pv, rfl, h1, h2⟩ := hq 0 r d rfl rfl
    obtain ⟨l, us, g1, g2, g3, g4, g5⟩ := build_cases rows ds (by simpa using hl) fun i r d h h' => hq (i + 1) r d (by simpa using h) (by simpa using h')
    refine ⟨c :: l, pv :: us, by simp [g1], by simp [g2], by rw [List.flatten_cons, g3]; rfl, fun i q u hi hu => ?_, fun m => ?_⟩
    · cases i with
      | zero => simp at hi hu; subst hi; subst hu; exact h1
      | succ i => exact g4 i q u (by simpa using hi) (by simpa using hu)
    · have := h2 m; have := g5 m
      simp only [bulkC, Rows.uptoBulkAll]; omega
/-- Parts, opened: how they lie, and how much there is in them. -/
theorem open_parts : ∀ (N fuel : Nat) (c : Value) (x : DataW H × List MemPlace), DataW.trod enc Tryz.prog w base spare held fuel 22 [c] = some x → Rows.uptoBulk x.1 ≤ N →
    ∃ l, Lies (N + 1) (InW w) w c l ∧ ∀ m, bulkF m l ≤ Rows.uptoBulk x.1
  | N, fuel, c, x, h, hN => by
    obtain ⟨rows, ds, m, hlen, hr, hb, hall⟩ := open_rows Tryz.underlying22 cellsPart (by omega) h
    cases N with
    | zero => omega
    | succ N =>
      obtain ⟨l, vs, g1, g2, g3, g4, g5⟩ := build_parts (w := w) (N := N + 1) (S := InW w) rows ds hlen fun i r d h1 h2 => by
        obtain ⟨_, pl, h3⟩ := hall i r d h1 h2
        obtain ⟨k, tx, nm, ty, st, off, cv, y, m', rfl, h4, h5⟩ := open_part h3
        have hd := up_at ds i d h2
        obtain ⟨rows', ds', m'', hlen', hr', hb', hall'⟩ := open_rows Tryz.underlying45 cellsCase (by omega) h4
        obtain ⟨cs, us, f1, f2, f3, f4, f5⟩ := build_cases (w := w) (N := N + 1) (S := InW w) rows' ds' hlen' fun i' r' d' h1' h2' => by
          obtain ⟨_, pl', h3'⟩ := hall' i' r' d' h1' h2'
          obtain ⟨key, pv, y', m3, rfl, h4', h5'⟩ := open_case h3'
          have hd' := up_at ds' i' d' h2'
          obtain ⟨l', hl', hl2⟩ := open_parts N m3 pv y' h4' (by omega)
          exact ⟨(key, l'), pv, rfl, hl', fun m => by have := hl2 m; simp only; omega⟩
        refine ⟨⟨k, tx, nm, ty, st, off, cs⟩, cv, rfl, ⟨us, f2, ?_, f4⟩, fun m => by have := f5 m; simp only; omega⟩
        show RdC (InW w) w cv cs.length (caseC cs us)
        rw [f1, ← f3]
        exact hr'
      refine ⟨l, ⟨vs, g2, ?_, g4⟩, fun m => ?_⟩
      · rw [g1, ← g3]; exact hr
      · cases m with
        | zero => exact Nat.zero_le _
        | succ m => have := g5 m; simp only [bulkF]; omega
end
end Go.Proofs.YtjldgcpmdcoejaaGreatDoor

namespace Go.Proofs.YtjldgcpmdcoejaaGreatDoor.mparts
open Go.ChangeShapes Go.WideShapes Go.ChangeAt Go.RowKit

set_option maxRecDepth 100000 in
theorem contract (H : Type) (enc : TypeId × Value → H) (W : World) (base : Nat) (args : Array Value) (ds gs : List (DataW H)) (before : List MemPlace)
    (hval : ∀ (j : Nat) t v, Tryz.f6.params[j]? = some t → args[j]? = some v → Value.okWide Tryz.prog W .any base t v)
    (hW : DataW.Whole enc Tryz.prog Tryz.f6.params.toList Rows.messagePartsSpec.vars false W args.toList ds gs before)
    (hL : laidMetH Tryz.prog Rows.messagePartsUptoRow.laid W) (hsh : W.ShapedOpen Tryz.prog) (hk : Rows.uptoSmall H (ds ++ gs) = true) :
    Calls Tryz.prog 6 args W fun e W' => ∃ v, e = .returned v ∧ Rows.messagePartsSpec.post enc Tryz.prog Tryz.f6 false true false false W args v W' := by
  have hW' := hW
  obtain ⟨p, q, hA0, hV, rfl, hfz, hnd⟩ := hW
  have hA : DataW.TrodAll enc Tryz.prog W 0 (fun _ => true) true Tryz.f6.params.toList args.toList ds p := hA0
  have hA1 := hA
  rw [Tryz.params6] at hA hval
  obtain ⟨v0, vs0, d0, ds0, p0, q0, hargs, rfl, rfl, h0, r0⟩ := trodAll_cons hA
  obtain ⟨v1, vs1, d1, ds1, p1, q1, hargs1, rfl, rfl, h1, r1⟩ := trodAll_cons r0
  obtain ⟨rfl, rfl, rfl⟩ := trodAll_nil r1
  obtain rfl : args = #[v0, v1] := by cases args; simp_all
  obtain ⟨rfl, rfl⟩ := trodVars_none hV
  have hlt := fun x hx => hW'.lt x hx
  have g0 := h0
  have g1 := h1
  have hbk : Rows.uptoBulk d0 ≤ 1048576 ∧ Rows.uptoBulk d1 ≤ 1048576 := by
    have h1 : Rows.uptoBulkAll ([d0, d1] ++ []) ≤ 1048576 := by simpa [Rows.uptoSmall] using hk
    have h2 := up_at ([d0, d1] ++ []) 0 d0 rfl
    have h3 := up_at ([d0, d1] ++ []) 1 d1 rfl
    omega
  obtain ⟨A, m, k, rfl⟩ := okWide_slice Tryz.underlying22 (hval 0 22 v0 rfl rfl)
  obtain ⟨A', m', k', rfl⟩ := okWide_slice Tryz.underlying22 (hval 1 22 v1 rfl rfl)
  obtain ⟨fuel, hf⟩ := h0
  obtain ⟨fuel', hf'⟩ := h1
  have hf2 : DataW.trod enc Tryz.prog W 0 (fun _ => true) true fuel 22 [.slice A m k] = some (d0, p0) := hf
  have hf3 : DataW.trod enc Tryz.prog W 0 (fun _ => true) true fuel' 22 [.slice A' m' k'] = some (d1, p1) := hf'
  obtain ⟨l, hl, hb⟩ := open_parts 1048576 fuel (.slice A m k) _ hf2 hbk.1
  obtain ⟨l', hl', hb'⟩ := open_parts 1048576 fuel' (.slice A' m' k') _ hf3 hbk.2
  have hna : ∀ n c, Value.slice A m k = .slice none n c → n = 0 ∧ c = 0 := fun n c he => by
    rw [he] at hf2
    rcases Deep.open_slice Tryz.underlying22 hf2 with ⟨hc, _⟩ | ⟨a, len, cap, m1, n1, D, Pl, hc, _⟩
    · simpa using hc
    · simp at hc
  have hnb : ∀ n c, Value.slice A' m' k' = .slice none n c → n = 0 ∧ c = 0 := fun n c he => by
    rw [he] at hf3
    rcases Deep.open_slice Tryz.underlying22 hf3 with ⟨hc, _⟩ | ⟨a, len, cap, m1, n1, D, Pl, hc, _⟩
    · simpa using hc
    · simp at hc
  refine (law_parts 1048576 l l' (InW W) (.slice A m k) (.slice A' m' k') _ W (env_m hL hsh) hl hl' hna hnb (fun x hx => hx) (Nat.le_trans (hb _) (Nat.le_trans hbk.1 (by omega))) (Nat.le_trans (hb' _) (Nat.le_trans hbk.2 (by omega)))).mono fun e W' ⟨he, hk⟩ => ?_
  subst he
  have hb := hk.toBelow
  have t0 := hb.trod laidOut (by kernel_rfl) (of_decide_eq_true (by kernel_rfl)) g0 (fun x hx => hlt x (by simp [hx]))
  have t1 := hb.trod laidOut (by kernel_rfl) (of_decide_eq_true (by kernel_rfl)) g1 (fun x hx => hlt x (by simp [hx]))
  exact ⟨_, rfl, _, _, _, [], _, [], hW', trodAll_cons_mk (shut_bool Tryz.underlying4 _) trodAll_mk0, trodAll_cons_mk t0 (trodAll_cons_mk t1 trodAll_mk0), rfl, hb.frame _, fun h => by cases h⟩

theorem reads (os : Os) {H : Type} (enc : TypeId × Value → H) : ∃ places, DataW.whole enc Tryz.prog ((laidWorld os).forCall (fun _ _ => 0) ⟨#[], #[.slice none 0 0, .slice none 0 0], []⟩).memory Tryz.f6.params.toList Rows.messagePartsSpec.vars false #[.slice none 0 0, .slice none 0 0].toList 8 = some ([.nil, .nil], [], places) :=
  ⟨[], by kernel_rfl⟩

set_option maxRecDepth 100000 in
theorem lifted (os : Os) (started : os.Started) (H : Type) (enc : TypeId × Value → H) (F : Stop.Interp) :
    ReturnsInHanded {} Tryz.checked os 6 .any ((Rows.OpenSpec.upto Rows.messagePartsSpec).preRow enc Tryz.prog Tryz.f6 Rows.messagePartsUptoRow.domain false Rows.messagePartsUptoRow.laid) (((Rows.OpenSpec.upto Rows.messagePartsSpec).at F).post enc Tryz.prog Tryz.f6 false true false false) := by
  obtain ⟨places, hx⟩ := reads os enc
  refine returnsInHanded_of_row (C := Tryz.checked) (s := Rows.OpenSpec.upto Rows.messagePartsSpec) own started (by kernel_rfl) Tryz.func6
    (witness_row_atRef (enc := enc) (C := Tryz.checked) false (laidWorld os) #[.slice none 0 0, .slice none 0 0] rfl (by kernel_rfl) (by kernel_rfl) (by kernel_rfl)
      (OpenSpec.preRow_of_cond 8 hx (by kernel_rfl) (fun k hk => by cases hk; kernel_rfl) (by kernel_rfl) (laid_met os _))) ?_
  intro W base args ds gs before hval hW _ hcond _ hL hsh _
  exact contract H enc W base args ds gs before hval hW hL hsh (hcond _ rfl)

theorem said : Rows.MessagePartsUptoSaid :=
  OpenClaim.holds_of_cond 6 Tryz.f6 rfl rfl rfl rfl rfl rfl rfl ⟨rfl, rfl, rfl, rfl, rfl⟩ rfl rfl rfl rfl rfl (by kernel_rfl) Tryz.func6 (by kernel_rfl)
    (of_decide_eq_true (by kernel_rfl)) (by unfold Func.isWrapper; first | (rw [if_pos (by decide +kernel)]; kernel_rfl) | (rw [if_neg (by decide +kernel)]; exact ⟨rfl, rfl⟩))
    (fun os started H enc _ F => by rw [OpenClaim.pre_eq_preRow]; exact lifted os started H enc F)
theorem plain (f : FuncId) (fn : Func) (hf : Tryz.pinned.checked.prog.funcNamed "vernacular/vernacularlaw19.MessageParts" = some f) (hfn : Tryz.pinned.checked.prog.funcs[f]? = some fn) :
    true = Tryz.pinned.checked.prog.looks [] ∧ ∀ (j : Nat) t, fn.params[j]? = some t → Tryz.pinned.checked.prog.wantsStandIn t = false := by
  obtain rfl : f = 6 := Option.some.inj ((show Tryz.prog.funcNamed "vernacular/vernacularlaw19.MessageParts" = some 6 by kernel_rfl).symm.trans hf) |>.symm
  obtain rfl : fn = Tryz.f6 := (Option.some.inj (Tryz.func6.symm.trans hfn)).symm
  refine ⟨by kernel_rfl, fun j t ht => ?_⟩
  rw [Tryz.params6] at ht
  have hm := Array.mem_of_getElem? ht
  obtain rfl : t = 22 := by simpa using hm
  exact (show Tryz.prog.wantsStandIn 22 = false by kernel_rfl)
theorem card : Rows.MessagePartsUptoCardSaid :=
  Claim7.holds_tied_plain_at .later [] _ _ _ _ said (fun _ h => by cases h) (by kernel_rfl) (fun _ h => by cases h) messagePartsUpto_row_tie rfl ⟨rfl, rfl⟩ (by kernel_rfl) rfl plain (by kernel_rfl)
end Go.Proofs.YtjldgcpmdcoejaaGreatDoor.mparts
