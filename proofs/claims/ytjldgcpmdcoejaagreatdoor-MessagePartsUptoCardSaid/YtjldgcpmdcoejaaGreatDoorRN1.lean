/- Plain: the names of parts: as they are met, and rising. No walk. Pairs in memory; walks: vernacularref19.put. Walks: vernacularref19.Names. Walks beside message.Names: asks; slices.IndexFunc over pairs at its closure; a pair set. Walks: the closure of message.Names that goes through parts. Walks: message.Names: the names, rising, each once. Walks: message.Names, of any parts. -/
import Derived.Test.YtjldgcpmdcoejaaGreatDoorPL
import Derived.Test.YtjldgcpmdcoejaaGreatDoorMZ
import Derived.Test.YtjldgcpmdcoejaaGreatDoorMC
import Derived.BigQuiet
import Derived.Laws.Cover1
import Derived.Test.YtjldgcpmdcoejaaGreatDoorPB
import Derived.Test.YtjldgcpmdcoejaaGreatDoorTS
import Derived.Test.YtjldgcpmdcoejaaGreatDoorSort
import Derived.Sort.OwnSorted
namespace Go.Proofs.YtjldgcpmdcoejaaGreatDoor
open Go.RowKit

abbrev PR := ByteArray × ByteArray
/-- A key stands ahead of another. -/
def kLt (a b : ByteArray) : Bool := decide (a.data.toList < b.data.toList)
theorem kLt_irrefl (a : ByteArray) : kLt a a = false := by simp [kLt, List.lt_irrefl]
theorem kLt_trans {a b c : ByteArray} (h1 : kLt a b = true) (h2 : kLt b c = true) : kLt a c = true := by
  simp only [kLt, decide_eq_true_eq] at *; exact List.lt_trans h1 h2
theorem kLt_eq {a b : ByteArray} (h1 : kLt a b = false) (h2 : kLt b a = false) : a = b := by
  simp only [kLt, decide_eq_false_iff_not, List.not_lt] at *
  have h := List.le_antisymm h2 h1
  obtain ⟨⟨a⟩⟩ := a
  obtain ⟨⟨b⟩⟩ := b
  simp only at h
  subst h
  rfl
theorem kLt_asymm {a b : ByteArray} (h1 : kLt a b = true) : kLt b a = false := by
  cases h2 : kLt b a
  · rfl
  · have := kLt_trans h1 h2; rw [kLt_irrefl] at this; cases this
theorem kLt_ne {a b : ByteArray} (h : kLt a b = true) : a ≠ b := fun e => by rw [e, kLt_irrefl] at h; cases h
/-- What is asked of a part's name. -/
def asksB (p : PT) : ByteArray := if p.k = 4 then ⟨#[116, 101, 120, 116]⟩ else if p.k = 5 ∨ p.k = 6 then ⟨#[110, 117, 109, 98, 101, 114]⟩ else p.ty
/-- A pair that is there, with one more of its key. -/
def updB (p x : PR) : PR := if x.1 = p.1 then (x.1, if x.2 = ⟨#[]⟩ then p.2 else x.2) else x
/-- One pair more, as they are met. -/
def addU : List PR → PR → List PR
  | [], p => [p]
  | x :: o, p => if x.1 = p.1 then updB p x :: o else x :: addU o p
/-- One pair more, rising. -/
def putR : List PR → PR → List PR
  | [], p => [p]
  | x :: o, p => if kLt x.1 p.1 = true then x :: putR o p else if x.1 = p.1 then updB p x :: o else p :: x :: o
def stepC (K : List PT → List PR → List PR) (o : List PR) (c : CT) : List PR := K c.2 o
def stepN (ADD : List PR → PR → List PR) (K : List PT → List PR → List PR) (o : List PR) (p : PT) : List PR :=
  (casesP p).foldl (stepC K) (if 3 ≤ p.k ∧ p.k ≤ 6 then ADD o (p.nm, asksB p) else o)
def namF (ADD : List PR → PR → List PR) : Nat → List PT → List PR → List PR
  | 0, _, o => o
  | n + 1, l, o => l.foldl (stepN ADD (namF ADD n)) o
/-- The keys rise. -/
def Rise (r : List PR) : Prop := r.Pairwise fun a b => kLt a.1 b.1 = true
theorem updB_key (p x : PR) : (updB p x).1 = x.1 := by unfold updB; split <;> rfl
theorem updB_ne {p x : PR} (h : x.1 ≠ p.1) : updB p x = x := by unfold updB; rw [if_neg h]
theorem map_updB_ne {p : PR} : ∀ {l : List PR}, (∀ x ∈ l, x.1 ≠ p.1) → l.map (updB p) = l
  | [], _ => rfl
  | x :: l, h => by rw [List.map_cons, updB_ne (h x (List.mem_cons_self ..)), map_updB_ne fun y hy => h y (List.mem_cons_of_mem _ hy)]
theorem addU_mem {p : PR} : ∀ {o : List PR}, (o.map (·.1)).Nodup → p.1 ∈ o.map (·.1) → addU o p = o.map (updB p)
  | [], _, h => by simp at h
  | x :: o, hn, h => by
    rw [List.map_cons, List.nodup_cons] at hn
    unfold addU
    by_cases hx : x.1 = p.1
    · rw [if_pos hx, List.map_cons, map_updB_ne]
      intro y hy e
      exact hn.1 (by rw [hx, ← e]; exact List.mem_map_of_mem hy)
    · rw [if_neg hx, List.map_cons, updB_ne hx, addU_mem hn.2]
      rw [List.map_cons, List.mem_cons] at h
      exact h.resolve_left fun e => hx e.symm
theorem addU_not {p : PR} : ∀ {o : List PR}, p.1 ∉ o.map (·.1) → addU o p = o ++ [p]
  | [], _ => rfl
  | x :: o, h => by
    rw [List.map_cons, List.mem_cons, not_or] at h
    unfold addU
    rw [if_neg fun e => h.1 e.symm, addU_not h.2]
    rfl
theorem Rise.nodup {r : List PR} (h : Rise r) : (r.map (·.1)).Nodup := by
  unfold List.Nodup
  rw [List.pairwise_map]
  exact List.Pairwise.imp (fun h => kLt_ne h) h
theorem putR_mem {p : PR} : ∀ {r : List PR}, Rise r → p.1 ∈ r.map (·.1) → putR r p = r.map (updB p)
  | [], _, h => by simp at h
  | x :: r, hr, h => by
    have hr1 := List.pairwise_cons.1 hr
    unfold putR
    by_cases hx : x.1 = p.1
    · rw [if_neg (by rw [hx, kLt_irrefl]; decide), if_pos hx, List.map_cons, map_updB_ne]
      intro y hy e
      have := kLt_ne (hr1.1 y hy)
      exact this (by rw [hx, e])
    · rw [List.map_cons, List.mem_cons] at h
      have h2 := h.resolve_left fun e => hx e.symm
      obtain ⟨y, hy, e⟩ := List.mem_map.1 h2
      rw [if_pos (by rw [← e]; exact hr1.1 y hy), putR_mem hr1.2 h2, List.map_cons, updB_ne hx]
theorem putR_not {p : PR} : ∀ {r : List PR}, p.1 ∉ r.map (·.1) → (putR r p).Perm (p :: r)
  | [], _ => List.Perm.refl _
  | x :: r, h => by
    rw [List.map_cons, List.mem_cons, not_or] at h
    unfold putR
    split
    · exact ((putR_not h.2).cons x).trans (List.Perm.swap ..)
    · rw [if_neg fun e => h.1 e.symm]
theorem putR_keys {p : PR} : ∀ {r : List PR} {x : PR}, x ∈ putR r p → x.1 = p.1 ∨ ∃ y ∈ r, x.1 = y.1
  | [], x, h => by
    simp only [putR, List.mem_singleton] at h
    exact .inl (by rw [h])
  | y :: r, x, h => by
    unfold putR at h
    split at h
    · rcases List.mem_cons.1 h with rfl | h
      · exact .inr ⟨_, List.mem_cons_self .., rfl⟩
      · rcases putR_keys h with h | ⟨z, hz, e⟩
        · exact .inl h
        · exact .inr ⟨z, List.mem_cons_of_mem _ hz, e⟩
    · split at h
      · rcases List.mem_cons.1 h with rfl | h
        · exact .inr ⟨y, List.mem_cons_self .., updB_key _ _⟩
        · exact .inr ⟨x, List.mem_cons_of_mem _ h, rfl⟩
      · rcases List.mem_cons.1 h with rfl | h
        · exact .inl rfl
        · exact .inr ⟨x, h, rfl⟩
theorem Rise.put {p : PR} : ∀ {r : List PR}, Rise r → Rise (putR r p)
  | [], _ => List.pairwise_singleton ..
  | x :: r, hr => by
    have hr1 := List.pairwise_cons.1 hr
    unfold putR
    split
    · rename_i h
      refine List.pairwise_cons.2 ⟨fun y hy => ?_, Rise.put hr1.2⟩
      rcases putR_keys hy with e | ⟨z, hz, e⟩
      · rw [e]; exact h
      · rw [e]; exact hr1.1 z hz
    · rename_i h
      split
      · exact List.pairwise_cons.2 ⟨fun y hy => by rw [updB_key]; exact hr1.1 y hy, hr1.2⟩
      · rename_i h2
        have h3 : kLt p.1 x.1 = true := by
          cases h3 : kLt p.1 x.1
          · exact absurd (kLt_eq (by simpa using h) h3) h2
          · rfl
        refine List.pairwise_cons.2 ⟨fun y hy => ?_, hr⟩
        rcases List.mem_cons.1 hy with rfl | hy
        · exact h3
        · exact kLt_trans h3 (hr1.1 y hy)
/-- The two lists of names go together. -/
def Together (o r : List PR) : Prop := o.Perm r ∧ Rise r
theorem Together.add {o r : List PR} (h : Together o r) (p : PR) : Together (addU o p) (putR r p) := by
  refine ⟨?_, h.2.put⟩
  have hk := h.1.map (·.1)
  by_cases hm : p.1 ∈ r.map (·.1)
  · rw [addU_mem (hk.symm.nodup h.2.nodup) (hk.mem_iff.2 hm), putR_mem h.2 hm]
    exact h.1.map _
  · rw [addU_not fun hm' => hm (hk.mem_iff.1 hm')]
    exact (List.perm_append_singleton p o).trans ((h.1.cons p).trans (putR_not hm).symm)
theorem Together.cases {K1 K2 : List PT → List PR → List PR} (hK : ∀ l o r, Together o r → Together (K1 l o) (K2 l r)) : ∀ (cs : List CT) {o r : List PR}, Together o r → Together (cs.foldl (stepC K1) o) (cs.foldl (stepC K2) r)
  | [], _, _, h => h
  | c :: cs, _, _, h => Together.cases hK cs (hK c.2 _ _ h)
theorem Together.parts {K1 K2 : List PT → List PR → List PR} (hK : ∀ l o r, Together o r → Together (K1 l o) (K2 l r)) : ∀ (l : List PT) {o r : List PR}, Together o r → Together (l.foldl (stepN addU K1) o) (l.foldl (stepN putR K2) r)
  | [], _, _, h => h
  | p :: l, o, r, h => by
    refine Together.parts hK l (Together.cases hK _ ?_)
    split
    · exact h.add _
    · exact h
theorem Together.nam : ∀ (n : Nat) (l : List PT) (o r : List PR), Together o r → Together (namF addU n l o) (namF putR n l r)
  | 0, _, _, _, h => h
  | n + 1, l, _, _, h => Together.parts (Together.nam n) l h
theorem together_nil : Together [] [] := ⟨List.Perm.refl _, List.Pairwise.nil⟩
theorem rise_key : ∀ {r : List PR} {a b : PR}, Rise r → a ∈ r → b ∈ r → a.1 = b.1 → a = b
  | x :: r, a, b, hr, ha, hb, e => by
    have hr1 := List.pairwise_cons.1 hr
    rcases List.mem_cons.1 ha with h1 | h1
    · rcases List.mem_cons.1 hb with h2 | h2
      · rw [h1, h2]
      · rw [h1] at e; exact absurd e (kLt_ne (hr1.1 b h2))
    · rcases List.mem_cons.1 hb with h2 | h2
      · rw [h2] at e; exact absurd e.symm (kLt_ne (hr1.1 a h1))
      · exact rise_key hr1.2 h1 h2 e
/-- A list that rises, however little, and holds the same: the same. -/
theorem rise_unique {d o r : List PR} (h : Together o r) (hd : d.Perm o) (hs : d.Pairwise fun a b => kLt b.1 a.1 = false) : d = r := by
  have hp := hd.trans h.1
  have hr : r.Pairwise fun a b => kLt b.1 a.1 = false := List.Pairwise.imp (R := fun a b : PR => kLt a.1 b.1 = true) (fun h => kLt_asymm h) (show r.Pairwise fun a b => kLt a.1 b.1 = true from h.2)
  exact List.Perm.eq_of_pairwise (le := fun a b => kLt b.1 a.1 = false) (fun a b ha hb h1 h2 => rise_key h.2 (hp.subset ha) hb (kLt_eq h2 h1)) hs hr hp
end Go.Proofs.YtjldgcpmdcoejaaGreatDoor

namespace Go.Proofs.YtjldgcpmdcoejaaGreatDoor
open Go.RowKit

def pairC : List PR → List Value
  | [] => []
  | x :: l => .string x.1 :: .string x.2 :: pairC l
theorem pairC_length : ∀ l : List PR, (pairC l).length = l.length * 2
  | [] => rfl
  | x :: l => by simp only [pairC, List.length_cons, pairC_length l]; omega
theorem pairC_append : ∀ l m : List PR, pairC (l ++ m) = pairC l ++ pairC m
  | [], _ => rfl
  | x :: l, m => by simp only [List.cons_append, pairC, pairC_append l m]
theorem pairC_at : ∀ (l : List PR) (i : Nat) (x : PR), l[i]? = some x → (pairC l)[i * 2]? = some (.string x.1) ∧ (pairC l)[i * 2 + 1]? = some (.string x.2)
  | [], _, _, h => by simp at h
  | y :: l, 0, x, h => by simp at h; subst h; exact ⟨rfl, rfl⟩
  | y :: l, i + 1, x, h => by
    have := pairC_at l i x (by simpa using h)
    rw [show (i + 1) * 2 = i * 2 + 1 + 1 by omega]
    exact this
theorem pairC_set : ∀ (l : List PR) (i : Nat) (x : PR) (y : ByteArray), l[i]? = some x → (pairC l).set (i * 2 + 1) (.string y) = pairC (l.set i (x.1, y))
  | [], _, _, _, h => by simp at h
  | z :: l, 0, x, y, h => by simp at h; subst h; rfl
  | z :: l, i + 1, x, y, h => by
    have := pairC_set l i x y (by simpa using h)
    rw [show (i + 1) * 2 + 1 = (i * 2 + 1) + 1 + 1 by omega]
    simp only [pairC, List.set_cons_succ, this]
/-- The value v is a slice of the call's own (its block lies from B on) that holds the pairs l. -/
def OwnP (w : World) (B : Nat) (v : Value) (l : List PR) : Prop := w.ownsRow B 44 2 v l.length (pairC l)
theorem infoPair : (Tryz.prog.info? 44).map (fun i => (i.zero, i.size, i.bytes)) = some (some (.agg #[.string ⟨#[]⟩, .string ⟨#[]⟩]), 2, 32) := by kernel_rfl
section
variable {B : Nat} {w w' : World} {v : Value} {bs : List Nat} {l : List PR}
theorem OwnP.nil (w : World) (B : Nat) : OwnP w B (.slice none 0 0) [] := World.ownsRow_nil w B _ 2
theorem OwnP.keep (h : OwnP w B v l) (hk : Keep bs w w') (hv : ∀ x ∈ v.ownBlock.toList, x ∉ bs) : OwnP w' B v l := ownsRow_keep h hk hv
theorem OwnP.keep_nil (h : OwnP w B v l) (hk : Keep [] w w') : OwnP w' B v l := h.keep hk (by simp)
theorem OwnP.lt (h : OwnP w B v l) : ∀ x ∈ v.ownBlock.toList, B ≤ x ∧ x < w.heap.size := fun x hx => World.ownsRow.lt h x (by simpa using hx)
theorem OwnP.le {B' : Nat} (h : OwnP w B v l) (hB : B' ≤ B) : OwnP w B' v l := by
  refine ⟨h.1, ?_⟩
  rcases h.2 with hn | ⟨g, cap, cur, rfl, h1, rest⟩
  · exact .inl hn
  · exact .inr ⟨g, cap, cur, rfl, by omega, rest⟩
theorem OwnP.form (h : OwnP w B v l) : ∃ A cap, v = .slice A l.length cap ∧ l.length ≤ maxLen ∧ ∀ (i : Nat) (x : PR), l[i]? = some x → ∃ g, A = some ⟨g, 0, none⟩ ∧ B ≤ g ∧ g < w.heap.size ∧ w.cell? ⟨g, i * 2, none⟩ = some (.string x.1) ∧ w.cell? ⟨g, i * 2 + 1, none⟩ = some (.string x.2) := by
  rcases h.2 with ⟨rfl, h0⟩ | ⟨g, cap, cur, rfl, hB, hg, h1, h2, _⟩
  · refine ⟨none, 0, by rw [h0], by rw [h0]; exact Nat.zero_le _, fun i x hx => ?_⟩
    have := (List.getElem?_eq_some_iff.1 hx).1
    omega
  · refine ⟨_, cap, rfl, Nat.le_trans h1 h2, fun i x hx => ⟨g, rfl, hB, (Array.getElem?_eq_some_iff.1 hg).1, ?_, ?_⟩⟩
    · have hi := (List.getElem?_eq_some_iff.1 hx).1
      exact (World.ownsRow.cellAt h (i * 2) (by omega)).trans (pairC_at l i x hx).1
    · have hi := (List.getElem?_eq_some_iff.1 hx).1
      exact (World.ownsRow.cellAt h (i * 2 + 1) (by omega)).trans (pairC_at l i x hx).2
end
theorem wpList_append_pair {ops : Array Oper} {rest : List Oper} {o : Oper} {a : Act} {Q : Exit → Act → World → Prop} (hgd : o.guard = none) (s x : Operand)
    (ho : o.op = .call { callee := .builtin .append, args := #[s, x], argTypes := #[41, 41] })
    {w0 : World} {B : Nat} {v : Value} {l : List PR} (hs : a.eval s = v) (hown : OwnP w0 B v l) (n : Nat) (hn : w0.heap.size = n) (p : PR) (hx : a.eval x = .slice (some ⟨n, 0, none⟩) 1 1)
    (hlen : l.length ≤ 1000000000) (hB : B ≤ w0.heap.size)
    (h : ∀ g cap w', OwnP w' B (.slice (some ⟨g, 0, none⟩) (l.length + 1) cap) (l ++ [p]) → Keep v.ownBlock.toList w0 w' → (v.ownBlock = some g ∨ g = n + 1) → g < w'.heap.size → wpList Tryz.prog ops Q rest (a.put o.dst (.slice (some ⟨g, 0, none⟩) (l.length + 1) cap)) w') :
    wpList Tryz.prog ops Q (o :: rest) a (w0.alloc (.cells #[.string p.1, .string p.2] 44)) := by
  obtain ⟨i0, hi, hz0, hz1, hz2⟩ := info_parts infoPair
  refine wpList_append_lies _ hgd s x 41 ho B 44 i0 _ 2 32 Tryz.underlying41 hi hz0 hz1 hz2 rfl (by decide) v l.length (pairC l) hs (World.ownsRow.alloc hown _) ⟨n, 0, none⟩ 1 1 [.string p.1, .string p.2] hx rfl (new_cells w0 n hn _ _) ?_ (by decide) (by unfold maxLen; omega) (by omega) (by simp; omega) (n + 1) (by simp [hn]) ?_
  · intro u hu
    simp only [List.mem_cons, List.mem_nil_iff, or_false] at hu
    rcases hu with rfl | rfl <;> rfl
  · intro g cap w' h1 h2 h3 h4
    have hk : Keep v.ownBlock.toList w0 w' := ((Keep.refl _ w0).alloc _).grown h2 fun k hk => .inl (by simpa using hk)
    refine h g cap w' ?_ hk h3 h4
    unfold OwnP
    rw [pairC_append, List.length_append]
    exact h1
theorem less_eq (a b : ByteArray) : Op.bytesLess a.toList b.toList = kLt a b := by simp [kLt, Proofs.bytesLess_eq, Lib.toList_data]

set_option maxRecDepth 100000 in
set_option maxHeartbeats 4000000 in
/-- vernacularref19.put. -/
theorem put19_any (l : List PR) (p : PR) (v : Value) (B : Nat) (w : World) (h : OwnP w B v l) (hl : l.length ≤ 100000000) :
    Calls Tryz.prog 50 #[v, .agg #[.string p.1, .string p.2]] w fun e w' => ∃ u, e = .returned u ∧ OwnP w' w.heap.size u (putR l p) ∧ Keep [] w w' := by
  obtain ⟨A, cap, rfl, hlm, hat⟩ := h.form
  have HAT := Lib.hid hat
  have HB0 : Hid (Blk (w.alloc (.cells #[.string p.1, .string p.2] 44)) w.heap.size 44 #[.string p.1, .string p.2]) := Blk.new _ _ _
  have hK0 : Keep [] w (w.alloc (.cells #[.string p.1, .string p.2] 44)) := (Keep.refl _ _).alloc _
  have HK0 := Lib.hid hK0
  obtain ⟨pb, hpb⟩ : ∃ pb, w.heap.size = pb := ⟨_, rfl⟩
  have HPB := Lib.hid hpb
  have hz0 : (w.alloc (.cells #[.string p.1, .string p.2] 44)).heap.size = pb + 1 := by simp [hpb]
  clear hat h hlm hK0
  obtain ⟨w0, hw0⟩ : ∃ w0, w.alloc (.cells #[.string p.1, .string p.2] 44) = w0 := ⟨_, rfl⟩
  rw [hpb, hw0] at HB0
  rw [hw0] at HK0 hz0
  rw [hpb]
  go_enter Tryz.func50, Tryz.ntmps50
  go_wp2
  clear hpb hw0
  go_loopw [5, 6, 7] (fun o d i wr => ∃ (k : Nat) (acc : List PR) (db : Bool), k ≤ l.length ∧ i = .int .i64 k ∧ d = .bool db ∧ acc.length ≤ 2 * k + 1 ∧ OwnP wr (pb + 1) o acc ∧ Keep [] w0 wr ∧ (if db then acc ++ l.drop k else acc ++ putR (l.drop k) p) = putR l p) (fun _ _ i _ => l.length - (intOf i).toNat)
  case atStart => exact ⟨0, [], false, Nat.zero_le _, rfl, rfl, by simp, OwnP.nil _ _, Keep.refl _ _, rfl⟩
  case round =>
    obtain ⟨k, acc, db, hk, rfl, rfl, hal, hO, hK, hR⟩ := hrel
    obtain ⟨Ao, co, rfl, _, _⟩ := hO.form
    have HO := Lib.hid hO
    have HK := Lib.hid hK
    have hzr : pb + 1 ≤ wr.heap.size := by have := hK.size; omega
    have b0 : wr.cell? ⟨pb, 0, none⟩ = some (.string p.1) := (HB0.out.keep hK (by simp)).cell_eq rfl
    have b1 : wr.cell? ⟨pb, 1, none⟩ = some (.string p.2) := (HB0.out.keep hK (by simp)).cell_eq rfl
    have HR := Lib.hid hR
    clear hO hR
    by_cases hlt : k < l.length
    · obtain ⟨x, hx⟩ : ∃ x, l[k]? = some x := ⟨_, List.getElem?_eq_getElem hlt⟩
      obtain ⟨g, rfl, _, hgl, e0, e1⟩ := HAT.out k x hx
      have hgp : g < pb := by have := HPB.out; omega
      have hgw : g < w0.heap.size := by have := HPB.out; omega
      have c0 := (hK.cell (p := ⟨g, k * 2, none⟩) hgw (by simp)).trans ((HK0.out.cell (p := ⟨g, k * 2, none⟩) hgl (by simp)).trans e0)
      have c1 := (hK.cell (p := ⟨g, k * 2 + 1, none⟩) hgw (by simp)).trans ((HK0.out.cell (p := ⟨g, k * 2 + 1, none⟩) hgl (by simp)).trans e1)
      have hdr : l.drop k = x :: l.drop (k + 1) := by
        rw [List.drop_eq_getElem_cons hlt, (List.getElem?_eq_some_iff.1 hx).2]
      have HDR := Lib.hid hdr
      have hbl := less_eq x.1 p.1
      have hbe := bytes_beq x.1 p.1
      have hb2 := bytes_beq x.2 ⟨#[]⟩
      rw [show ByteArray.toList ⟨#[]⟩ = [] by rw [ByteArray.toList_eq]] at hb2
      clear e0 e1 hK hx hdr
      cases db
      · have h14 := HR.out
        rw [HDR.out] at h14
        simp only [Bool.false_eq_true, if_false, putR] at h14
        cases hc : kLt x.1 p.1
        · rw [hc] at hbl h14
          by_cases he : x.1 = p.1
          · rw [decide_eq_true he] at hbe
            rw [if_neg (by decide), if_pos he] at h14
            by_cases h2 : x.2 = ⟨#[]⟩
            · rw [decide_eq_true h2] at hb2
              have hu : updB p x = (x.1, p.2) := by unfold updB; rw [if_pos he, if_pos h2]
              rw [hu] at h14
              have H14 := Lib.hid h14
              clear hu h2 he h14 hc
              go_wp2
              go_quiet (fail)
              have hK1 : Keep [] wr (wr.drewN nq) := (Keep.refl _ _).drewN _
              have hO1 : OwnP (wr.drewN nq) (pb + 1) (.slice Ao acc.length co) acc := HO.out
              replace b0 : (wr.drewN nq).cell? ⟨pb, 0, none⟩ = some (.string p.1) := b0
              replace b1 : (wr.drewN nq).cell? ⟨pb, 1, none⟩ = some (.string p.2) := b1
              replace c0 : (wr.drewN nq).cell? ⟨g, k * 2, none⟩ = some (.string x.1) := c0
              replace c1 : (wr.drewN nq).cell? ⟨g, k * 2 + 1, none⟩ = some (.string x.2) := c1
              replace hzr : pb + 1 ≤ (wr.drewN nq).heap.size := hzr
              generalize wr.drewN nq = W1 at *
              replace HK := Lib.hid (HK.out.nil hK1)
              replace HO := Lib.hid hO1
              clear hK1 hO1
              go_wp2
              go_quiet (fail)
              have hK1 : Keep [] W1 (W1.drewN nq) := (Keep.refl _ _).drewN _
              have hO1 : OwnP (W1.drewN nq) (pb + 1) (.slice Ao acc.length co) acc := HO.out
              replace b0 : (W1.drewN nq).cell? ⟨pb, 0, none⟩ = some (.string p.1) := b0
              replace b1 : (W1.drewN nq).cell? ⟨pb, 1, none⟩ = some (.string p.2) := b1
              replace c0 : (W1.drewN nq).cell? ⟨g, k * 2, none⟩ = some (.string x.1) := c0
              replace c1 : (W1.drewN nq).cell? ⟨g, k * 2 + 1, none⟩ = some (.string x.2) := c1
              replace hzr : pb + 1 ≤ (W1.drewN nq).heap.size := hzr
              generalize W1.drewN nq = W2 at *
              replace HK := Lib.hid (HK.out.nil hK1)
              replace HO := Lib.hid hO1
              clear hK1 hO1
              have d1 : (W2.alloc (.cells #[.string x.1, .string x.2] 44)).cell? ⟨pb, 1, none⟩ = some (.string p.2) := (((Keep.refl [] W2).alloc _).cell (p := ⟨pb, 1, none⟩) (by simp; omega) (by simp)).trans b1
              go_wp2_with (at_builtin; refine wpList_append_pair (l := acc) rfl _ _ rfl rfl (HO.out.keep_nil (by (repeat first | exact Keep.refl _ _ | refine Keep.alloc ?_ _ | refine Keep.drewN ?_ _ | refine Keep.drew ?_ | refine Keep.setCell ?_ (.inr (by simp)) _))) _ (by first | rfl | simp) (x.1, p.2) rfl (by first | omega | (simp; omega)) (by first | exact hzr | omega | (simp; omega)) ?_; intro g2 cap2 w2 q1 q2 q3 q4; have Q2 := Lib.hid q1; have R2 := Lib.hid q2; have hz2 : pb + 1 ≤ w2.heap.size := (by have := q2.size; first | omega | (simp at this; omega)); clear q1 q2 q3 q4)
              go_roundw
              case rel => exact ⟨k + 1, acc ++ [(x.1, p.2)], true, by omega, by go_num, rfl, by simp; omega, by simpa using Q2.out, (HK.out.nil (by (repeat first | exact Keep.refl _ _ | refine Keep.alloc ?_ _ | refine Keep.drewN ?_ _ | refine Keep.drew ?_ | refine Keep.setCell ?_ (.inr (by simp)) _))).trans R2.out (fun y hy => .inr (by have := (HO.out.lt y hy).1; omega)), by rw [← H14.out]; simp⟩
              case measure => simp [intOf]; omega
            · rw [decide_eq_false h2] at hb2
              have hu : updB p x = x := by unfold updB; rw [if_pos he, if_neg h2]
              rw [hu] at h14
              have H14 := Lib.hid h14
              clear hu h2 he h14 hc
              go_wp2
              go_quiet (fail)
              have hK1 : Keep [] wr (wr.drewN nq) := (Keep.refl _ _).drewN _
              have hO1 : OwnP (wr.drewN nq) (pb + 1) (.slice Ao acc.length co) acc := HO.out
              replace b0 : (wr.drewN nq).cell? ⟨pb, 0, none⟩ = some (.string p.1) := b0
              replace b1 : (wr.drewN nq).cell? ⟨pb, 1, none⟩ = some (.string p.2) := b1
              replace c0 : (wr.drewN nq).cell? ⟨g, k * 2, none⟩ = some (.string x.1) := c0
              replace c1 : (wr.drewN nq).cell? ⟨g, k * 2 + 1, none⟩ = some (.string x.2) := c1
              replace hzr : pb + 1 ≤ (wr.drewN nq).heap.size := hzr
              generalize wr.drewN nq = W1 at *
              replace HK := Lib.hid (HK.out.nil hK1)
              replace HO := Lib.hid hO1
              clear hK1 hO1
              go_wp2
              go_quiet (fail)
              have hK1 : Keep [] W1 (W1.drewN nq) := (Keep.refl _ _).drewN _
              have hO1 : OwnP (W1.drewN nq) (pb + 1) (.slice Ao acc.length co) acc := HO.out
              replace b0 : (W1.drewN nq).cell? ⟨pb, 0, none⟩ = some (.string p.1) := b0
              replace b1 : (W1.drewN nq).cell? ⟨pb, 1, none⟩ = some (.string p.2) := b1
              replace c0 : (W1.drewN nq).cell? ⟨g, k * 2, none⟩ = some (.string x.1) := c0
              replace c1 : (W1.drewN nq).cell? ⟨g, k * 2 + 1, none⟩ = some (.string x.2) := c1
              replace hzr : pb + 1 ≤ (W1.drewN nq).heap.size := hzr
              generalize W1.drewN nq = W2 at *
              replace HK := Lib.hid (HK.out.nil hK1)
              replace HO := Lib.hid hO1
              clear hK1 hO1
              go_wp2_with (at_builtin; refine wpList_append_pair (l := acc) rfl _ _ rfl rfl (HO.out.keep_nil (by (repeat first | exact Keep.refl _ _ | refine Keep.alloc ?_ _ | refine Keep.drewN ?_ _ | refine Keep.drew ?_ | refine Keep.setCell ?_ (.inr (by simp)) _))) _ (by first | rfl | simp) x rfl (by first | omega | (simp; omega)) (by first | exact hzr | omega | (simp; omega)) ?_; intro g2 cap2 w2 q1 q2 q3 q4; have Q2 := Lib.hid q1; have R2 := Lib.hid q2; have hz2 : pb + 1 ≤ w2.heap.size := (by have := q2.size; first | omega | (simp at this; omega)); clear q1 q2 q3 q4)
              go_roundw
              case rel => exact ⟨k + 1, acc ++ [x], true, by omega, by go_num, rfl, by simp; omega, by simpa using Q2.out, (HK.out.nil (by (repeat first | exact Keep.refl _ _ | refine Keep.alloc ?_ _ | refine Keep.drewN ?_ _ | refine Keep.drew ?_ | refine Keep.setCell ?_ (.inr (by simp)) _))).trans R2.out (fun y hy => .inr (by have := (HO.out.lt y hy).1; omega)), by rw [← H14.out]; simp⟩
              case measure => simp [intOf]; omega
          · rw [decide_eq_false he] at hbe
            rw [if_neg (by decide), if_neg he] at h14
            have H14 := Lib.hid h14
            clear he hb2 h14 hc
            go_wp2
            go_quiet (fail)
            have hK1 : Keep [] wr (wr.drewN nq) := (Keep.refl _ _).drewN _
            have hO1 : OwnP (wr.drewN nq) (pb + 1) (.slice Ao acc.length co) acc := HO.out
            replace b0 : (wr.drewN nq).cell? ⟨pb, 0, none⟩ = some (.string p.1) := b0
            replace b1 : (wr.drewN nq).cell? ⟨pb, 1, none⟩ = some (.string p.2) := b1
            replace c0 : (wr.drewN nq).cell? ⟨g, k * 2, none⟩ = some (.string x.1) := c0
            replace c1 : (wr.drewN nq).cell? ⟨g, k * 2 + 1, none⟩ = some (.string x.2) := c1
            replace hzr : pb + 1 ≤ (wr.drewN nq).heap.size := hzr
            generalize wr.drewN nq = W1 at *
            replace HK := Lib.hid (HK.out.nil hK1)
            replace HO := Lib.hid hO1
            clear hK1 hO1
            go_wp2
            go_quiet (fail)
            have hK1 : Keep [] W1 (W1.drewN nq) := (Keep.refl _ _).drewN _
            have hO1 : OwnP (W1.drewN nq) (pb + 1) (.slice Ao acc.length co) acc := HO.out
            replace b0 : (W1.drewN nq).cell? ⟨pb, 0, none⟩ = some (.string p.1) := b0
            replace b1 : (W1.drewN nq).cell? ⟨pb, 1, none⟩ = some (.string p.2) := b1
            replace c0 : (W1.drewN nq).cell? ⟨g, k * 2, none⟩ = some (.string x.1) := c0
            replace c1 : (W1.drewN nq).cell? ⟨g, k * 2 + 1, none⟩ = some (.string x.2) := c1
            replace hzr : pb + 1 ≤ (W1.drewN nq).heap.size := hzr
            generalize W1.drewN nq = W2 at *
            replace HK := Lib.hid (HK.out.nil hK1)
            replace HO := Lib.hid hO1
            clear hK1 hO1
            go_wp2_with (first | (at_builtin; refine wpList_append_pair (l := acc) rfl _ _ rfl rfl (HO.out.keep_nil (by (repeat first | exact Keep.refl _ _ | refine Keep.alloc ?_ _ | refine Keep.drewN ?_ _ | refine Keep.drew ?_ | refine Keep.setCell ?_ (.inr (by simp)) _))) _ (by first | rfl | simp) p rfl (by first | omega | (simp; omega)) (by first | exact hzr | omega | (simp; omega)) ?_; intro g2 cap2 w2 q1 q2 q3 q4; have Q2 := Lib.hid q1; have R2 := Lib.hid q2; have hz2 : pb + 1 ≤ w2.heap.size := (by have := q2.size; first | omega | (simp at this; omega)); have k0 := (q2.cell (p := ⟨g, k * 2, none⟩) (by first | omega | (simp; omega)) (by intro hc; have := (HO.out.lt g hc).1; omega)).trans c0; have k1 := (q2.cell (p := ⟨g, k * 2 + 1, none⟩) (by first | omega | (simp; omega)) (by intro hc; have := (HO.out.lt g hc).1; omega)).trans c1; clear q1 q2 q3 q4) | (at_builtin; refine wpList_append_pair (l := acc ++ [p]) rfl _ _ rfl rfl (Q2.out.keep_nil (by (repeat first | exact Keep.refl _ _ | refine Keep.alloc ?_ _ | refine Keep.drewN ?_ _ | refine Keep.drew ?_ | refine Keep.setCell ?_ (.inr (by simp)) _))) _ (by first | rfl | simp) x rfl (by first | omega | (simp; omega)) (by first | exact hzr | omega | (simp; omega)) ?_; intro g3 cap3 w3 q1 q2 q3 q4; have Q3 := Lib.hid q1; have R3 := Lib.hid q2; have hz3 : pb + 1 ≤ w3.heap.size := (by have := q2.size; first | omega | (simp at this; omega)); clear q1 q2 q3 q4))
            go_roundw
            case rel => exact ⟨k + 1, acc ++ [p] ++ [x], true, by omega, by go_num, rfl, by simp; omega, by simpa using Q3.out, ((HK.out.nil (by (repeat first | exact Keep.refl _ _ | refine Keep.alloc ?_ _ | refine Keep.drewN ?_ _ | refine Keep.drew ?_ | refine Keep.setCell ?_ (.inr (by simp)) _))).trans R2.out (fun y hy => .inr (by have := (HO.out.lt y hy).1; omega))).trans R3.out (fun y hy => .inr (by have := (Q2.out.lt y hy).1; omega)), by rw [← H14.out]; simp⟩
            case measure => simp [intOf]; omega
        · rw [hc] at hbl h14
          rw [if_pos rfl] at h14
          have H14 := Lib.hid h14
          clear hbe hb2 h14 hc
          go_wp2
          go_quiet (fail)
          go_wp2_with (at_builtin; refine wpList_append_pair (l := acc) rfl _ _ rfl rfl (HO.out.keep_nil (by (repeat first | exact Keep.refl _ _ | refine Keep.alloc ?_ _ | refine Keep.drewN ?_ _ | refine Keep.drew ?_ | refine Keep.setCell ?_ (.inr (by simp)) _))) _ (by first | rfl | simp) x rfl (by first | omega | (simp; omega)) (by first | exact hzr | omega | (simp; omega)) ?_; intro g2 cap2 w2 q1 q2 q3 q4; have Q2 := Lib.hid q1; have R2 := Lib.hid q2; have hz2 : pb + 1 ≤ w2.heap.size := (by have := q2.size; first | omega | (simp at this; omega)); clear q1 q2 q3 q4)
          go_roundw
          case rel => exact ⟨k + 1, acc ++ [x], false, by omega, by go_num, rfl, by simp; omega, by simpa using Q2.out, (HK.out.nil (by (repeat first | exact Keep.refl _ _ | refine Keep.alloc ?_ _ | refine Keep.drewN ?_ _ | refine Keep.drew ?_ | refine Keep.setCell ?_ (.inr (by simp)) _))).trans R2.out (fun y hy => .inr (by have := (HO.out.lt y hy).1; omega)), by rw [← H14.out]; simp⟩
          case measure => simp [intOf]; omega
      · clear hbl hbe hb2
        have h14 := HR.out
        rw [HDR.out] at h14
        simp only [if_true] at h14
        have H14 := Lib.hid h14
        clear h14
        go_wp2
        go_quiet (fail)
        go_wp2_with (at_builtin; refine wpList_append_pair (l := acc) rfl _ _ rfl rfl (HO.out.keep_nil (by (repeat first | exact Keep.refl _ _ | refine Keep.alloc ?_ _ | refine Keep.drewN ?_ _ | refine Keep.drew ?_ | refine Keep.setCell ?_ (.inr (by simp)) _))) _ (by first | rfl | simp) x rfl (by first | omega | (simp; omega)) (by first | exact hzr | omega | (simp; omega)) ?_; intro g2 cap2 w2 q1 q2 q3 q4; have Q2 := Lib.hid q1; have R2 := Lib.hid q2; have hz2 : pb + 1 ≤ w2.heap.size := (by have := q2.size; first | omega | (simp at this; omega)); clear q1 q2 q3 q4)
        go_roundw
        case rel => exact ⟨k + 1, acc ++ [x], true, by omega, by go_num, rfl, by simp; omega, by simpa using Q2.out, (HK.out.nil (by (repeat first | exact Keep.refl _ _ | refine Keep.alloc ?_ _ | refine Keep.drewN ?_ _ | refine Keep.drew ?_ | refine Keep.setCell ?_ (.inr (by simp)) _))).trans R2.out (fun y hy => .inr (by have := (HO.out.lt y hy).1; omega)), by rw [← H14.out]; simp⟩
        case measure => simp [intOf]; omega
    · obtain rfl : k = l.length := by omega
      clear hK hlt
      have h14 := HR.out
      rw [List.drop_length] at h14
      cases db
      · simp only [Bool.false_eq_true, if_false, putR] at h14
        have H14 := Lib.hid h14
        clear h14
        go_wp2_with (at_builtin; refine wpList_append_pair (l := acc) rfl _ _ rfl rfl (HO.out.keep_nil (by (repeat first | exact Keep.refl _ _ | refine Keep.alloc ?_ _ | refine Keep.drewN ?_ _ | refine Keep.drew ?_ | refine Keep.setCell ?_ (.inr (by simp)) _))) _ (by first | rfl | simp) p rfl (by first | omega | (simp; omega)) (by first | exact hzr | omega | (simp; omega)) ?_; intro g2 cap2 w2 q1 q2 q3 q4; have Q2 := Lib.hid q1; have R2 := Lib.hid q2; have hz2 : pb + 1 ≤ w2.heap.size := (by have := q2.size; first | omega | (simp at this; omega)); clear q1 q2 q3 q4)
        go_ret
        rw [← H14.out]
        exact ⟨_, rfl, by simpa using Q2.out.le (by omega), HK0.out.nil ((HK.out.nil (by (repeat first | exact Keep.refl _ _ | refine Keep.alloc ?_ _ | refine Keep.drewN ?_ _ | refine Keep.drew ?_ | refine Keep.setCell ?_ (.inr (by simp)) _))).trans R2.out (fun y hy => .inr (by have := (HO.out.lt y hy).1; omega)))⟩
      · simp only [if_true, List.append_nil] at h14
        have H14 := Lib.hid h14
        clear h14
        go_wp2
        go_ret
        rw [← H14.out]
        exact ⟨_, rfl, HO.out.le (by omega), HK0.out.nil HK.out⟩
end Go.Proofs.YtjldgcpmdcoejaaGreatDoor

namespace Go.Proofs.YtjldgcpmdcoejaaGreatDoor
open Go.RowKit

theorem putR_len : ∀ (r : List PR) (p : PR), (putR r p).length ≤ r.length + 1
  | [], _ => Nat.le_refl _
  | x :: r, p => by
    have := putR_len r p
    unfold putR
    split
    · simp; omega
    · split <;> simp
theorem addU_len : ∀ (r : List PR) (p : PR), (addU r p).length ≤ r.length + 1
  | [], _ => Nat.le_refl _
  | x :: r, p => by
    have := addU_len r p
    unfold addU
    split <;> simp; omega
theorem nbulkC_append (K : List PT → Nat) : ∀ (a b : List CT), bulkC K (a ++ b) = bulkC K a + bulkC K b
  | [], b => by simp [bulkC]
  | c :: a, b => by simp only [List.cons_append, bulkC, nbulkC_append K a b]; omega
theorem nbulkL_append (K : List PT → Nat) : ∀ (a b : List PT), bulkL K (a ++ b) = bulkL K a + bulkL K b
  | [], b => by simp [bulkL]
  | c :: a, b => by simp only [List.cons_append, bulkL, nbulkL_append K a b]; omega
theorem bulkC_take (K : List PT → Nat) (cs : List CT) (k : Nat) : bulkC K (cs.take k) ≤ bulkC K cs := by
  have := nbulkC_append K (cs.take k) (cs.drop k)
  rw [List.take_append_drop] at this
  omega
theorem bulkL_take (K : List PT → Nat) (l : List PT) (k : Nat) : bulkL K (l.take k) ≤ bulkL K l := by
  have := nbulkL_append K (l.take k) (l.drop k)
  rw [List.take_append_drop] at this
  omega
theorem bulkL_next {K : List PT → Nat} {l : List PT} {k : Nat} {p : PT} (hp : l[k]? = some p) : bulkL K (l.take (k + 1)) = bulkL K (l.take k) + (1 + p.tx.size + p.nm.size + p.ty.size + p.st.size + bulkC K p.cs) := by
  rw [take_snoc' hp, nbulkL_append]; simp [bulkL]
theorem bulkC_next {K : List PT → Nat} {l : List CT} {k : Nat} {c : CT} (hp : l[k]? = some c) : bulkC K (l.take (k + 1)) = bulkC K (l.take k) + (1 + c.1.size + K c.2) := by
  rw [take_snoc' hp, nbulkC_append]; simp [bulkC]
section
variable {ADD : List PR → PR → List PR} {K : List PT → List PR → List PR} {KB : List PT → Nat}
theorem stepC_len (hK : ∀ l o, (K l o).length ≤ o.length + KB l) : ∀ (cs : List CT) (o : List PR), (cs.foldl (stepC K) o).length ≤ o.length + bulkC KB cs
  | [], _ => Nat.le_refl _
  | c :: cs, o => by
    have h1 := stepC_len hK cs (stepC K o c)
    have h2 := hK c.2 o
    simp only [List.foldl_cons, bulkC]
    unfold stepC at h1 ⊢
    omega
theorem stepN_len (hA : ∀ o p, (ADD o p).length ≤ o.length + 1) (hK : ∀ l o, (K l o).length ≤ o.length + KB l) (o : List PR) (p : PT) : (stepN ADD K o p).length ≤ o.length + (1 + p.tx.size + p.nm.size + p.ty.size + p.st.size + bulkC KB p.cs) := by
  unfold stepN
  have h1 := stepC_len hK (casesP p) (if 3 ≤ p.k ∧ p.k ≤ 6 then ADD o (p.nm, asksB p) else o)
  have h2 : bulkC KB (casesP p) ≤ bulkC KB p.cs := by
    unfold casesP; split
    · exact Nat.zero_le _
    · exact Nat.le_refl _
  have h3 : (if 3 ≤ p.k ∧ p.k ≤ 6 then ADD o (p.nm, asksB p) else o).length ≤ o.length + 1 := by
    split
    · exact hA _ _
    · omega
  omega
theorem foldN_len (hA : ∀ o p, (ADD o p).length ≤ o.length + 1) (hK : ∀ l o, (K l o).length ≤ o.length + KB l) : ∀ (l : List PT) (o : List PR), (l.foldl (stepN ADD K) o).length ≤ o.length + bulkL KB l
  | [], _ => Nat.le_refl _
  | p :: l, o => by
    have h1 := foldN_len hA hK l (stepN ADD K o p)
    have h2 := stepN_len hA hK o p
    simp only [List.foldl_cons, bulkL]
    omega
end
theorem nam_len {ADD : List PR → PR → List PR} (hA : ∀ o p, (ADD o p).length ≤ o.length + 1) : ∀ (n : Nat) (l : List PT) (o : List PR), (namF ADD n l o).length ≤ o.length + bulkF n l
  | 0, _, _ => Nat.le_refl _
  | n + 1, l, o => foldN_len hA (nam_len hA n) l o
def textA : ByteArray := ⟨#[116, 101, 120, 116]⟩
def numA : ByteArray := ⟨#[110, 117, 109, 98, 101, 114]⟩
section
variable {ADD : List PR → PR → List PR} {K : List PT → List PR → List PR} {o : List PR} {p : PT}
theorem stepN_out (h : p.k < 3 ∨ 6 < p.k) : stepN ADD K o p = o := by
  unfold stepN
  rw [show casesP p = [] from by unfold casesP; rw [if_pos (by omega)], if_neg (by omega)]
  rfl
theorem stepN_arg (h : p.k = 3) : stepN ADD K o p = ADD o (p.nm, p.ty) := by
  unfold stepN
  rw [show casesP p = [] from by unfold casesP; rw [if_pos (by omega)], if_pos (by omega), show asksB p = p.ty from by unfold asksB; rw [if_neg (by omega), if_neg (by omega)]]
  rfl
theorem stepN_sel (h : p.k = 4) : stepN ADD K o p = p.cs.foldl (stepC K) (ADD o (p.nm, textA)) := by
  unfold stepN
  rw [show casesP p = p.cs from by unfold casesP; rw [if_neg (by omega)], if_pos (by omega), show asksB p = textA from by unfold asksB; rw [if_pos h]; rfl]
theorem stepN_num (h : p.k = 5 ∨ p.k = 6) : stepN ADD K o p = p.cs.foldl (stepC K) (ADD o (p.nm, numA)) := by
  unfold stepN
  rw [show casesP p = p.cs from by unfold casesP; rw [if_neg (by omega)], if_pos (by omega), show asksB p = numA from by unfold asksB; rw [if_neg (by omega), if_pos h]; rfl]
end
/-- vernacularref19.Names, of trees n deep. -/
def N19C (n : Nat) : Prop := ∀ (l : List PT) (S : Nat → Prop) (v u : Value) (o : List PR) (w : World), Lies n S w v l → OwnP w 0 u o → o.length + bulkF n l ≤ 100000000 →
  Calls Tryz.prog 21 #[v, u] w fun e w' => ∃ u', e = .returned u' ∧ OwnP w' 0 u' (namF putR n l o) ∧ Keep [] w w'
set_option maxRecDepth 100000 in
set_option maxHeartbeats 4000000 in
theorem names19_step (n : Nat) (ih : N19C n) : N19C (n + 1) := fun l S v u o w h hO hb => by
  obtain ⟨A, cap, rfl, hml, hat⟩ := lies_open h
  have HAT := Lib.hid hat
  have HIH := Lib.hid ih
  have hll : l.length ≤ 100000000 := by have := bulkL_len (bulkF n) l; simp only [bulkF] at hb; omega
  have HB : Hid (o.length + bulkL (bulkF n) l ≤ 100000000) := hb
  obtain ⟨RR, hRR⟩ : ∃ RR, namF putR (n + 1) l o = RR := ⟨_, rfl⟩
  rw [hRR]
  have HRR : Hid (l.foldl (stepN putR (namF putR n)) o = RR) := hRR
  have HO := Lib.hid hO
  clear h hat hml hb hRR hO ih
  go_enter Tryz.func21, Tryz.ntmps21
  go_wp2
  go_loopw [1, 5] (fun ov i wr => ∃ (k : Nat) (acc : List PR), k ≤ l.length ∧ i = .int .i64 k ∧ OwnP wr 0 ov acc ∧ Keep [] w wr ∧ acc.length ≤ o.length + bulkL (bulkF n) (l.take k) ∧ (l.drop k).foldl (stepN putR (namF putR n)) acc = RR) (fun _ i _ => l.length - (intOf i).toNat)
  case atStart => exact ⟨0, o, Nat.zero_le _, rfl, HO.out, Keep.refl _ _, by simp [bulkL], HRR.out⟩
  case round =>
    obtain ⟨k, acc, hk, rfl, hO, hK, hal, hF⟩ := hrel
    obtain ⟨Ao, co, rfl, _, _⟩ := hO.form
    have HO1 := Lib.hid hO
    have HK := Lib.hid hK
    clear hO hK HO
    by_cases hlt : k < l.length
    · obtain ⟨p, hp⟩ : ∃ p, l[k]? = some p := ⟨_, List.getElem?_eq_getElem hlt⟩
      obtain ⟨b, off, cv, rfl, hb, hP, hC⟩ := HAT.out k p hp
      obtain ⟨a0, a1, a2, a3, a4, a5, a6⟩ := hP.keep HK.out hb
      have hC1 := hC.keep HK.out (by simp)
      obtain ⟨Ac, cc, rfl, hcm, hcat⟩ := liesC_open hC1
      have hbL : o.length + bulkL (bulkF n) l ≤ 100000000 := HB.out
      have hb2 := bulkL_take (bulkF n) l (k + 1)
      have hb3 := bulkL_next (K := bulkF n) hp
      have hcl : p.cs.length ≤ 100000000 := by have := bulkC_len (bulkF n) p.cs; omega
      have hdr : l.drop k = p :: l.drop (k + 1) := by
        rw [List.drop_eq_getElem_cons hlt, (List.getElem?_eq_some_iff.1 hp).2]
      have hsl := stepN_len putR_len (nam_len putR_len n) acc p
      have hF2 := hF
      rw [hdr, List.foldl_cons] at hF2
      have HF2 := Lib.hid hF2
      have HLN : Hid ((stepN putR (namF putR n) acc p).length ≤ o.length + bulkL (bulkF n) (l.take (k + 1))) := by unfold Hid; omega
      have hx0 : Blk (wr.alloc (.cells #[.int .i64 p.k, .string p.tx, .string p.nm, .string p.ty, .string p.st, .int .i64 p.off, .slice Ac p.cs.length cc] 47)) wr.heap.size 47 #[.int .i64 p.k, .string p.tx, .string p.nm, .string p.ty, .string p.st, .int .i64 p.off, .slice Ac p.cs.length cc] := Blk.new _ _ _
      have hkx : Keep [] wr (wr.alloc (.cells #[.int .i64 p.k, .string p.tx, .string p.nm, .string p.ty, .string p.st, .int .i64 p.off, .slice Ac p.cs.length cc] 47)) := (Keep.refl _ _).alloc _
      have HPUT : ∀ (y : ByteArray) W, Keep [] wr W → Hid (Calls Tryz.prog 50 #[.slice Ao acc.length co, .agg #[.string p.nm, .string y]] W fun e w' => ∃ u, e = .returned u ∧ OwnP w' W.heap.size u (putR acc (p.nm, y)) ∧ Keep [] W w') := fun y W hW => put19_any acc (p.nm, y) _ 0 W (HO1.out.keep_nil hW) (by omega)
      have HX0 := Lib.hid hx0
      have HKX := Lib.hid hkx
      have HCAT := Lib.hid hcat
      clear hC1 hcat hP hC hF hF2 hdr hx0 hkx hsl hcm
      obtain hkk | hkk | hkk | hkk | hkk : p.k < 3 ∨ 6 < p.k ∨ p.k = 3 ∨ p.k = 4 ∨ (p.k = 5 ∨ p.k = 6) := by omega
      · have hs : stepN putR (namF putR n) acc p = acc := stepN_out (by omega)
        rw [hs] at HF2 HLN
        clear hs
        go_wp2
        go_roundw
        case rel => exact ⟨k + 1, acc, by omega, by go_num, HO1.out.keep_nil HKX.out, HK.out.nil HKX.out, HLN.out, HF2.out⟩
        case measure => simp [intOf]; omega
      · have hs : stepN putR (namF putR n) acc p = acc := stepN_out (by omega)
        rw [hs] at HF2 HLN
        have hk3 : ¬ p.k < 3 := by omega
        clear hs
        go_wp2
        go_roundw
        case rel => exact ⟨k + 1, acc, by omega, by go_num, HO1.out.keep_nil HKX.out, HK.out.nil HKX.out, HLN.out, HF2.out⟩
        case measure => simp [intOf]; omega
      · have hs : stepN putR (namF putR n) acc p = putR acc (p.nm, p.ty) := stepN_arg hkk
        have l3 : ¬ p.k < 3 := by omega
        have l6 : ¬ 6 < p.k := by omega
        have e4 : (p.k == 4) = false := by simp; omega
        have e3 : (p.k != 3) = false := by simpa using hkk
        clear hkk hb3 hb2 hbL
        rw [hs] at HF2 HLN
        clear hs
        go_wp2_with (go_at_call 50; refine (HPUT _ _ HKX.out).out.mono ?_; rintro e w2 ⟨u2, rfl, hO2, hk2⟩; have hx2 := HX0.out.keep hk2 (by simp); have HX2 := Lib.hid hx2; have d0 : w2.cell? ⟨wr.heap.size, 0, none⟩ = some (.int .i64 p.k) := hx2.cell_eq rfl; have d6 : w2.cell? ⟨wr.heap.size, 6, none⟩ = some (.slice Ac p.cs.length cc) := hx2.cell_eq rfl; have HO2 := Lib.hid (hO2.le (Nat.zero_le _)); have HK02 := Lib.hid (HKX.out.nil hk2); have HK2 := Lib.hid (HK.out.nil (HKX.out.nil hk2)); clear hx2 hk2 hO2 HPUT)
        go_loopw [1, 8] (fun ov j wx => ov = u2 ∧ j = .int .i64 0 ∧ wx = w2) (fun _ _ _ => 0)
        case atStart => exact ⟨rfl, rfl, rfl⟩
        case round =>
          obtain ⟨rfl, rfl, rfl⟩ := hrel
          by_cases hz : p.cs.length = 0
          · go_wp2
            go_roundw
            case rel => exact ⟨k + 1, _, by omega, by go_num, HO2.out, HK2.out, HLN.out, HF2.out⟩
            case measure => simp [intOf]; omega
          · have hz' : (0 : Int) < p.cs.length := by omega
            go_wp2
            go_roundw
            case rel => exact ⟨k + 1, _, by omega, by go_num, HO2.out, HK2.out, HLN.out, HF2.out⟩
            case measure => simp [intOf]; omega
      · have hs := stepN_sel (ADD := putR) (K := namF putR n) (o := acc) hkk
        have e4 : (p.k == 4) = true := by simpa using hkk
        have e43 : (p.k != 3) = true := by simp; omega
        have l3 : ¬ p.k < 3 := by omega
        have l6 : ¬ 6 < p.k := by omega
        rw [hs] at HF2 HLN
        have HBB : Hid (acc.length + 1 + bulkC (bulkF n) p.cs ≤ 100000000) := by unfold Hid; omega
        clear hs hb3 hb2 hbL hkk
        go_wp2_with (go_at_call 50; refine (HPUT _ _ HKX.out).out.mono ?_; rintro e w2 ⟨u2, rfl, hO2, hk2⟩; have hx2 := HX0.out.keep hk2 (by simp); have HX2 := Lib.hid hx2; have d0 : w2.cell? ⟨wr.heap.size, 0, none⟩ = some (.int .i64 p.k) := hx2.cell_eq rfl; have d6 : w2.cell? ⟨wr.heap.size, 6, none⟩ = some (.slice Ac p.cs.length cc) := hx2.cell_eq rfl; have HO2 := Lib.hid (hO2.le (Nat.zero_le _)); have HK02 := Lib.hid (HKX.out.nil hk2); have HK2 := Lib.hid (HK.out.nil (HKX.out.nil hk2)); clear hx2 hk2 hO2 HPUT)
        go_loopw [1, 8] (fun ov j wx => ∃ (m : Nat) (acc2 : List PR), m ≤ p.cs.length ∧ j = .int .i64 m ∧ OwnP wx 0 ov acc2 ∧ Keep [] w2 wx ∧ acc2.length ≤ acc.length + 1 + bulkC (bulkF n) (p.cs.take m) ∧ (p.cs.drop m).foldl (stepC (namF putR n)) acc2 = p.cs.foldl (stepC (namF putR n)) (putR acc (p.nm, textA))) (fun _ j _ => p.cs.length - (intOf j).toNat)
        case atStart => exact ⟨0, putR acc (p.nm, textA), Nat.zero_le _, rfl, HO2.out, Keep.refl _ _, by have := putR_len acc (p.nm, textA); simp only [List.take_zero, bulkC]; omega, rfl⟩
        case round =>
          obtain ⟨m, acc2, hm, rfl, hO3, hK3, hal3, hF3⟩ := hrel
          obtain ⟨Ao3, co3, rfl, _, _⟩ := hO3.form
          have hx3 := HX2.out.keep hK3 (by simp)
          have d0 := hx3.cell_eq (i := 0) rfl
          have d6 := hx3.cell_eq (i := 6) rfl
          have HO3 := Lib.hid hO3
          have HK3 := Lib.hid hK3
          have hxl := hx3.lt
          clear hx3 hO3
          by_cases hlt2 : m < p.cs.length
          · obtain ⟨c, hc⟩ : ∃ c, p.cs[m]? = some c := ⟨_, List.getElem?_eq_getElem hlt2⟩
            obtain ⟨b2, o2, pv, rfl, hb2, g1, g2, hL⟩ := HCAT.out m c hc
            have hk23 := HK02.out.nil hK3
            have g2' := (hk23.cell (p := ⟨b2, o2 + m * 2 + 1, none⟩) hb2 (by simp)).trans g2
            have hL3 := hL.keep hk23 (by simp)
            have hbc := bulkC_next (K := bulkF n) hc
            have hbt := bulkC_take (bulkF n) p.cs (m + 1)
            have hdr : p.cs.drop m = c :: p.cs.drop (m + 1) := by
              rw [List.drop_eq_getElem_cons hlt2, (List.getElem?_eq_some_iff.1 hc).2]
            rw [hdr, List.foldl_cons] at hF3
            have hnl := nam_len putR_len n c.2 acc2
            have hHB := HBB.out
            have HN : Hid (Calls Tryz.prog 21 #[pv, .slice Ao3 acc2.length co3] _ fun e w' => ∃ u', e = .returned u' ∧ OwnP w' 0 u' (namF putR n c.2 acc2) ∧ Keep [] _ w') := HIH.out c.2 S pv _ acc2 _ hL3 HO3.out (by omega)
            have HF3 := Lib.hid hF3
            have HLB : Hid ((namF putR n c.2 acc2).length ≤ acc.length + 1 + bulkC (bulkF n) (p.cs.take (m + 1))) := by unfold Hid; omega
            clear hL hL3 g1 g2 hk23 hK3 hF3 hc hnl hbc hbt hdr hal3
            go_wp2_with (go_at_call 21; refine HN.out.mono ?_; rintro e w5 ⟨u5, rfl, hO5, hk5⟩)
            go_roundw
            case rel => exact ⟨m + 1, _, by omega, by go_num, hO5, HK3.out.nil hk5, HLB.out, HF3.out⟩
            case measure => simp [intOf]; omega
          · obtain rfl : m = p.cs.length := by omega
            rw [List.drop_length] at hF3
            have HF3 : Hid (acc2 = List.foldl (stepC (namF putR n)) (putR acc (p.nm, textA)) p.cs) := hF3
            clear hF3 hK3
            go_wp2
            go_roundw
            case rel => exact ⟨k + 1, _, by omega, by go_num, HO3.out, HK2.out.nil HK3.out, by rw [HF3.out]; exact HLN.out, by rw [HF3.out]; exact HF2.out⟩
            case measure => simp [intOf]; omega
      · have hs := stepN_num (ADD := putR) (K := namF putR n) (o := acc) hkk
        have e4 : (p.k == 4) = false := by simp; omega
        have e43 : (p.k != 3) = true := by simp; omega
        have l3 : ¬ p.k < 3 := by omega
        have l6 : ¬ 6 < p.k := by omega
        rw [hs] at HF2 HLN
        have HBB : Hid (acc.length + 1 + bulkC (bulkF n) p.cs ≤ 100000000) := by unfold Hid; omega
        clear hs hb3 hb2 hbL hkk
        go_wp2_with (go_at_call 50; refine (HPUT _ _ HKX.out).out.mono ?_; rintro e w2 ⟨u2, rfl, hO2, hk2⟩; have hx2 := HX0.out.keep hk2 (by simp); have HX2 := Lib.hid hx2; have d0 : w2.cell? ⟨wr.heap.size, 0, none⟩ = some (.int .i64 p.k) := hx2.cell_eq rfl; have d6 : w2.cell? ⟨wr.heap.size, 6, none⟩ = some (.slice Ac p.cs.length cc) := hx2.cell_eq rfl; have HO2 := Lib.hid (hO2.le (Nat.zero_le _)); have HK02 := Lib.hid (HKX.out.nil hk2); have HK2 := Lib.hid (HK.out.nil (HKX.out.nil hk2)); clear hx2 hk2 hO2 HPUT)
        go_loopw [1, 8] (fun ov j wx => ∃ (m : Nat) (acc2 : List PR), m ≤ p.cs.length ∧ j = .int .i64 m ∧ OwnP wx 0 ov acc2 ∧ Keep [] w2 wx ∧ acc2.length ≤ acc.length + 1 + bulkC (bulkF n) (p.cs.take m) ∧ (p.cs.drop m).foldl (stepC (namF putR n)) acc2 = p.cs.foldl (stepC (namF putR n)) (putR acc (p.nm, numA))) (fun _ j _ => p.cs.length - (intOf j).toNat)
        case atStart => exact ⟨0, putR acc (p.nm, numA), Nat.zero_le _, rfl, HO2.out, Keep.refl _ _, by have := putR_len acc (p.nm, numA); simp only [List.take_zero, bulkC]; omega, rfl⟩
        case round =>
          obtain ⟨m, acc2, hm, rfl, hO3, hK3, hal3, hF3⟩ := hrel
          obtain ⟨Ao3, co3, rfl, _, _⟩ := hO3.form
          have hx3 := HX2.out.keep hK3 (by simp)
          have d0 := hx3.cell_eq (i := 0) rfl
          have d6 := hx3.cell_eq (i := 6) rfl
          have HO3 := Lib.hid hO3
          have HK3 := Lib.hid hK3
          have hxl := hx3.lt
          clear hx3 hO3
          by_cases hlt2 : m < p.cs.length
          · obtain ⟨c, hc⟩ : ∃ c, p.cs[m]? = some c := ⟨_, List.getElem?_eq_getElem hlt2⟩
            obtain ⟨b2, o2, pv, rfl, hb2, g1, g2, hL⟩ := HCAT.out m c hc
            have hk23 := HK02.out.nil hK3
            have g2' := (hk23.cell (p := ⟨b2, o2 + m * 2 + 1, none⟩) hb2 (by simp)).trans g2
            have hL3 := hL.keep hk23 (by simp)
            have hbc := bulkC_next (K := bulkF n) hc
            have hbt := bulkC_take (bulkF n) p.cs (m + 1)
            have hdr : p.cs.drop m = c :: p.cs.drop (m + 1) := by
              rw [List.drop_eq_getElem_cons hlt2, (List.getElem?_eq_some_iff.1 hc).2]
            rw [hdr, List.foldl_cons] at hF3
            have hnl := nam_len putR_len n c.2 acc2
            have hHB := HBB.out
            have HN : Hid (Calls Tryz.prog 21 #[pv, .slice Ao3 acc2.length co3] _ fun e w' => ∃ u', e = .returned u' ∧ OwnP w' 0 u' (namF putR n c.2 acc2) ∧ Keep [] _ w') := HIH.out c.2 S pv _ acc2 _ hL3 HO3.out (by omega)
            have HF3 := Lib.hid hF3
            have HLB : Hid ((namF putR n c.2 acc2).length ≤ acc.length + 1 + bulkC (bulkF n) (p.cs.take (m + 1))) := by unfold Hid; omega
            clear hL hL3 g1 g2 hk23 hK3 hF3 hc hnl hbc hbt hdr hal3
            go_wp2_with (go_at_call 21; refine HN.out.mono ?_; rintro e w5 ⟨u5, rfl, hO5, hk5⟩)
            go_roundw
            case rel => exact ⟨m + 1, _, by omega, by go_num, hO5, HK3.out.nil hk5, HLB.out, HF3.out⟩
            case measure => simp [intOf]; omega
          · obtain rfl : m = p.cs.length := by omega
            rw [List.drop_length] at hF3
            have HF3 : Hid (acc2 = List.foldl (stepC (namF putR n)) (putR acc (p.nm, numA)) p.cs) := hF3
            clear hF3 hK3
            go_wp2
            go_roundw
            case rel => exact ⟨k + 1, _, by omega, by go_num, HO3.out, HK2.out.nil HK3.out, by rw [HF3.out]; exact HLN.out, by rw [HF3.out]; exact HF2.out⟩
            case measure => simp [intOf]; omega
    · obtain rfl : k = l.length := by omega
      go_wp2
      go_ret
      rw [List.drop_length] at hF
      rw [← hF]
      exact ⟨_, rfl, HO1.out, HK.out⟩
theorem names19_any : ∀ n, N19C n
  | 0 => fun _ _ _ _ _ _ h => h.elim
  | n + 1 => names19_step n (names19_any n)
end Go.Proofs.YtjldgcpmdcoejaaGreatDoor

namespace Go.Proofs.YtjldgcpmdcoejaaGreatDoor
open Go.RowKit

set_option maxRecDepth 100000 in
set_option maxHeartbeats 400000 in
/-- asks. -/
theorem asks_any (p : PT) (cv : Value) (w : World) :
    Calls Tryz.prog 45 #[.agg #[.int .i64 p.k, .string p.tx, .string p.nm, .string p.ty, .string p.st, .int .i64 p.off, cv]] w fun e w' => e = .returned (.string (asksB p)) ∧ Keep [] w w' := by
  obtain hkk | hkk | hkk | hkk : p.k = 4 ∨ p.k = 5 ∨ p.k = 6 ∨ (p.k ≠ 4 ∧ p.k ≠ 5 ∧ p.k ≠ 6) := by omega
  · have HA : Hid (asksB p = ⟨#[116, 101, 120, 116]⟩) := by unfold Hid asksB; rw [if_pos hkk]
    have e4 : (p.k == 4) = true := by simpa using hkk
    clear hkk
    go_enter Tryz.func45, Tryz.ntmps45
    go_wp2
    all_goals
      go_ret
      exact ⟨by rw [HA.out]; rfl, (Keep.refl _ _).alloc _⟩
  · have HA : Hid (asksB p = ⟨#[110, 117, 109, 98, 101, 114]⟩) := by unfold Hid asksB; rw [if_neg (by omega), if_pos (by omega)]
    have e4 : (p.k == 4) = false := by simp; omega
    have e5 : (p.k == 5) = true := by simpa using hkk
    clear hkk
    go_enter Tryz.func45, Tryz.ntmps45
    go_wp2
    all_goals
      go_ret
      exact ⟨by rw [HA.out]; rfl, (Keep.refl _ _).alloc _⟩
  · have HA : Hid (asksB p = ⟨#[110, 117, 109, 98, 101, 114]⟩) := by unfold Hid asksB; rw [if_neg (by omega), if_pos (by omega)]
    have e4 : (p.k == 4) = false := by simp; omega
    have e5 : (p.k == 5) = false := by simp; omega
    have e6 : (p.k == 6) = true := by simpa using hkk
    clear hkk
    go_enter Tryz.func45, Tryz.ntmps45
    go_wp2
    all_goals
      go_ret
      exact ⟨by rw [HA.out]; rfl, (Keep.refl _ _).alloc _⟩
  · have HA : Hid (asksB p = p.ty) := by unfold Hid asksB; rw [if_neg (by omega), if_neg (by omega)]
    have e4 : (p.k == 4) = false := by simp; omega
    have e5 : (p.k == 5) = false := by simp; omega
    have e6 : (p.k == 6) = false := by simp; omega
    clear hkk
    go_enter Tryz.func45, Tryz.ntmps45
    go_wp2
    all_goals
      go_ret
      exact ⟨by rw [HA.out]; rfl, (Keep.refl _ _).alloc _⟩
set_option maxRecDepth 100000 in
set_option maxHeartbeats 400000 in
/-- The closure that Names hands to IndexFunc. -/
theorem nkey_any (x : PR) (pb : Nat) (nm : ByteArray) (w : World) (hlt : pb < w.heap.size) (h : w.cell? ⟨pb, 2, none⟩ = some (.string nm)) :
    Calls Tryz.prog 44 #[.agg #[.string x.1, .string x.2], .pointer (some ⟨pb, 0, none⟩)] w fun e w' => e = .returned (.bool (decide (x.1 = nm))) ∧ Below w.heap.size w w' := by
  have HB := Lib.hid (bytes_beq x.1 nm)
  go_enter Tryz.func44, Tryz.ntmps44
  go_wp2
  go_ret
  exact ⟨ends_bool HB.out, (Below.refl _ _).alloc (Nat.le_refl _) _⟩
set_option maxRecDepth 100000 in
set_option maxHeartbeats 1000000 in
theorem idxPair_any {B : Nat} (v : Value) (o : List PR) (nm : ByteArray) (pb : Nat) (w : World) (hlt : pb < w.heap.size) (h : w.cell? ⟨pb, 2, none⟩ = some (.string nm)) (hO : OwnP w B v o) (hl : o.length ≤ 1000000000) :
    Calls Tryz.prog 43 #[v, .func (.func 44) #[] #[.pointer (some ⟨pb, 0, none⟩)]] w fun e w' => e = .returned (.int .i64 (findK (fun k => decide (k = nm)) (o.map Prod.fst) 0)) ∧ Keep [] w w' := by
  have hK : ∀ args w, (callFunc 44 args).run Tryz.prog w = .ok (.enter 44 args) w := enters_of Tryz.func44 (by kernel_rfl) rfl
  have hc : ∀ (x : PR) W, Below w.heap.size w W → Calls Tryz.prog 44 #[.agg #[.string x.1, .string x.2], .pointer (some ⟨pb, 0, none⟩)] W fun e w' => e = .returned (.bool (decide (x.1 = nm))) ∧ Below W.heap.size W w' := fun x W hb => nkey_any x pb nm W (Nat.lt_of_lt_of_le hlt hb.size) ((hb.cell (p := ⟨pb, 2, none⟩) hlt).trans h)
  have hc2 : ∃ c : ByteArray → Bool, c = (fun k => decide (k = nm)) := ⟨_, rfl⟩
  obtain ⟨c, hcd⟩ := hc2
  rw [← hcd]
  have hc3 : ∀ (x : PR) W, Below w.heap.size w W → Calls Tryz.prog 44 #[.agg #[.string x.1, .string x.2], .pointer (some ⟨pb, 0, none⟩)] W fun e w' => e = .returned (.bool (c x.1)) ∧ Below W.heap.size W w' := by subst hcd; exact hc
  clear hc hcd
  obtain ⟨A, cp, rfl, h2, h3⟩ := hO.form
  have H3 := Lib.hid h3
  have HC := Lib.hid hc3
  obtain ⟨m, hm⟩ : ∃ m, o.length = m := ⟨_, rfl⟩
  rw [hm] at hl ⊢
  have HM := Lib.hid hm
  clear h3 hc3 hm hO h2 h hlt
  go_enter Tryz.func43, Tryz.ntmps43
  go_wp2
  go_loopg [8] m (fun gk s8 wx => ∃ i : Nat, i + gk = m ∧ s8 = .int .i64 i ∧ Below w.heap.size w wx ∧ findK c ((o.map Prod.fst).drop i) i = findK c (o.map Prod.fst) 0)
  case atStart => exact ⟨0, by omega, rfl, Below.refl _ _, rfl⟩
  case round =>
    obtain ⟨i, hig, rfl, hb, hf⟩ := hrel
    have HB := Lib.hid hb
    have HF := Lib.hid hf
    clear hb hf
    cases gk with
    | zero =>
      obtain rfl : i = m := by omega
      have HR : Hid (findK c (o.map Prod.fst) 0 = -1) := by
        have := HF.out
        rw [List.drop_eq_nil_of_le (by simp [HM.out])] at this
        exact this.symm
      go_wp2
      go_ret
      exact ⟨by rw [HR.out]; rfl, Keep.of_below HB.out⟩
    | succ gk =>
      have hi : i < m := by omega
      have hin : i < o.length := by rw [HM.out]; exact hi
      obtain ⟨x, hx⟩ : ∃ x, o[i]? = some x := ⟨_, List.getElem?_eq_getElem hin⟩
      obtain ⟨b, rfl, _, hbl, e0, e1⟩ := H3.out i x hx
      have g0 := (HB.out.cell (p := ⟨b, i * 2, none⟩) hbl).trans e0
      have g1 := (HB.out.cell (p := ⟨b, i * 2 + 1, none⟩) hbl).trans e1
      have HF2 : Hid (findK c (o.map Prod.fst) 0 = if c x.1 then (i : Int) else findK c ((o.map Prod.fst).drop (i + 1)) (i + 1)) := by
        have := HF.out
        rw [List.drop_eq_getElem_cons (by simpa using hin)] at this
        unfold Hid
        rw [← this]
        simp only [findK, List.getElem_map, (List.getElem?_eq_some_iff.1 hx).2]
      clear e0 e1 hx
      cases hck : c x.1 with
      | true =>
        have HX := Lib.hid (HC.out x wr HB.out)
        rw [hck] at HX HF2
        have HF3 : Hid (findK c (o.map Prod.fst) 0 = (i : Int)) := HF2.out
        clear hck HF2
        go_wp2_with (go_at_fn 44; refine HX.out.mono ?_; rintro e w' ⟨rfl, hb⟩)
        go_ret
        exact ⟨by rw [HF3.out]; rfl, Keep.of_below (HB.out.trans (hb.mono HB.out.size))⟩
      | false =>
        have HX := Lib.hid (HC.out x wr HB.out)
        rw [hck] at HX HF2
        have HF3 : Hid (findK c (o.map Prod.fst) 0 = findK c ((o.map Prod.fst).drop (i + 1)) (i + 1)) := HF2.out
        clear hck HF2
        go_wp2_with (go_at_fn 44; refine HX.out.mono ?_; rintro e w' ⟨rfl, hb⟩)
        go_roundg gk
        case measure => omega
        case rel => exact ⟨i + 1, by omega, by go_num, HB.out.trans (hb.mono HB.out.size), HF3.out.symm⟩
/-- One pair more, by where its key stands. -/
theorem addU_find (p : PR) : ∀ (o : List PR) (j : Nat), (findK (fun k => decide (k = p.1)) (o.map Prod.fst) j = -1 ∧ addU o p = o ++ [p]) ∨ ∃ (i : Nat) (x : PR), o[i]? = some x ∧ findK (fun k => decide (k = p.1)) (o.map Prod.fst) j = ((j + i : Nat) : Int) ∧ addU o p = o.set i (x.1, if x.2 = ⟨#[]⟩ then p.2 else x.2)
  | [], _ => .inl ⟨rfl, rfl⟩
  | x :: o, j => by
    by_cases hx : x.1 = p.1
    · refine .inr ⟨0, x, rfl, ?_, ?_⟩
      · simp [findK, hx]
      · unfold addU updB; rw [if_pos hx, if_pos hx]; rfl
    · rcases addU_find p o (j + 1) with ⟨h1, h2⟩ | ⟨i, y, h1, h2, h3⟩
      · refine .inl ⟨?_, ?_⟩
        · simp only [List.map_cons, findK, decide_eq_false hx]; simpa using h1
        · unfold addU; rw [if_neg hx, h2]; rfl
      · refine .inr ⟨i + 1, y, by simpa using h1, ?_, ?_⟩
        · simp only [List.map_cons, findK, decide_eq_false hx]
          rw [show j + (i + 1) = j + 1 + i by omega]
          simpa using h2
        · unfold addU; rw [if_neg hx, h3]; rfl
theorem OwnP.set {B g cap : Nat} {w : World} {l : List PR} {i : Nat} {x : PR} (h : OwnP w B (.slice (some ⟨g, 0, none⟩) l.length cap) l) (hx : l[i]? = some x) (y : ByteArray) : OwnP (w.setCell ⟨g, i * 2 + 1, none⟩ (.string y)) B (.slice (some ⟨g, 0, none⟩) l.length cap) (l.set i (x.1, y)) := by
  have hst := World.ownsRow.stored h (i * 2 + 1) (.string y)
  rw [pairC_set l i x y hx] at hst
  unfold OwnP
  rw [List.length_set]
  exact hst.1
end Go.Proofs.YtjldgcpmdcoejaaGreatDoor

namespace Go.Proofs.YtjldgcpmdcoejaaGreatDoor
open Go.RowKit

/-- The function value that lies in hb. -/
abbrev walkV (gb hb : Nat) : Value := .func (.func 42) #[] #[.pointer (some ⟨gb, 0, none⟩), .pointer (some ⟨hb, 0, none⟩)]
/-- What holds of the memory: gb holds the names so far, hb the function. -/
structure NS (B gb hb : Nat) (w : World) (u : Value) (o : List PR) : Prop where
  hg : Blk w gb 41 #[u]
  hh : Blk w hb 71 #[walkV gb hb]
  own : OwnP w B u o
  gB : gb < B
  hB : hb < B
  gh : gb ≠ hb
/-- From one to the next: gb, the names' own block and what is new have moved. -/
def Mv (gb : Nat) (u : Value) (w : World) (u' : Value) (w' : World) : Prop := Keep (gb :: u.ownBlock.toList) w w' ∧ ∀ x ∈ u'.ownBlock.toList, x ∈ u.ownBlock.toList ∨ w.heap.size ≤ x
section
variable {B gb hb : Nat} {w w' w1 : World} {u u' u1 : Value} {o o' : List PR}
theorem Mv.refl (gb : Nat) (u : Value) (w : World) : Mv gb u w u w := ⟨Keep.refl _ _, fun _ hx => .inl hx⟩
theorem Mv.nil (h : Mv gb u w u' w') (hk : Keep [] w' w1) : Mv gb u w u' w1 := ⟨h.1.nil hk, h.2⟩
theorem Mv.of_nil (hk : Keep [] w w') : Mv gb u w u w' := (Mv.refl _ _ _).nil hk
theorem Mv.trans (h : Mv gb u w u' w') (k : Mv gb u' w' u1 w1) : Mv gb u w u1 w1 := by
  refine ⟨h.1.trans k.1 (fun x hx => ?_), fun x hx => ?_⟩
  · rcases List.mem_cons.1 hx with hx | hx
    · exact .inl (by simp [hx])
    · rcases h.2 x hx with hx | hx
      · exact .inl (List.mem_cons_of_mem _ hx)
      · exact .inr hx
  · rcases k.2 x hx with hx | hx
    · exact h.2 x hx
    · exact .inr (Nat.le_trans h.1.size hx)
theorem NS.nil (h : NS B gb hb w u o) (hk : Keep [] w w') : NS B gb hb w' u o := ⟨h.hg.keep hk (by simp), h.hh.keep hk (by simp), h.own.keep_nil hk, h.gB, h.hB, h.gh⟩
theorem NS.gu (h : NS B gb hb w u o) : gb ∉ u.ownBlock.toList ∧ hb ∉ u.ownBlock.toList := ⟨fun hc => by have := (h.own.lt gb hc).1; have := h.gB; omega, fun hc => by have := (h.own.lt hb hc).1; have := h.hB; omega⟩
/-- A block that is neither stands. -/
theorem NS.far (h : NS B gb hb w u o) (hm : Mv gb u w u' w') {p : Nat} {t : TypeId} {cs : Array Value} (hp : Blk w p t cs) (h1 : t ≠ 41) (h2 : 44 ≠ t) : Blk w' p t cs :=
  hp.keep hm.1 fun hc => by
    rcases List.mem_cons.1 hc with hc | hc
    · exact Blk.ne_ hp h.hg h1 hc
    · exact own_blk_ne h.own hp h2 (by simpa using hc)
theorem NS.lies {n : Nat} {S : Nat → Prop} {v : Value} {l : List PT} (h : NS B gb hb w u o) (hm : Mv gb u w u' w') (hl : Lies n S w v l) (hS : ∀ x, S x → x < B ∧ x ≠ gb) : Lies n S w' v l :=
  hl.keep hm.1 fun x hx hc => by
    rcases List.mem_cons.1 hx with hx | hx
    · exact (hS x hc).2 hx
    · have := (h.own.lt x hx).1; have := (hS x hc).1; omega
theorem NS.liesC {n : Nat} {S : Nat → Prop} {v : Value} {l : List CT} (h : NS B gb hb w u o) (hm : Mv gb u w u' w') (hl : LiesC n S w v l) (hS : ∀ x, S x → x < B ∧ x ≠ gb) : LiesC n S w' v l :=
  hl.keep hm.1 fun x hx hc => by
    rcases List.mem_cons.1 hx with hx | hx
    · exact (hS x hc).2 hx
    · have := (h.own.lt x hx).1; have := (hS x hc).1; omega
end
/-- The closure, of trees n deep. -/
def NmC (n : Nat) : Prop := ∀ (l : List PT) (S : Nat → Prop) (v u : Value) (o : List PR) (B gb hb : Nat) (w : World), Lies n S w v l → NS B gb hb w u o → B ≤ w.heap.size → (∀ x, S x → x < B ∧ x ≠ gb) → o.length + bulkF n l ≤ 100000000 →
  Calls Tryz.prog 42 #[v, .pointer (some ⟨gb, 0, none⟩), .pointer (some ⟨hb, 0, none⟩)] w fun e w' => ∃ u', e = .returned (.tuple #[]) ∧ NS B gb hb w' u' (namF addU n l o) ∧ Mv gb u w u' w'
set_option maxRecDepth 100000 in
set_option maxHeartbeats 4000000 in
theorem names1_step (n : Nat) (ih : NmC n) : NmC (n + 1) := fun l S v u o B gb hb w h hN hBw hS hb0 => by
  obtain ⟨A, cap, rfl, hml, _⟩ := lies_open h
  have HL := Lib.hid h
  have HIH := Lib.hid ih
  have hll : l.length ≤ 100000000 := by have := bulkL_len (bulkF n) l; simp only [bulkF] at hb0; omega
  have HBB : Hid (o.length + bulkL (bulkF n) l ≤ 100000000) := hb0
  obtain ⟨RR, hRR⟩ : ∃ RR, namF addU (n + 1) l o = RR := ⟨_, rfl⟩
  rw [hRR]
  have HRR : Hid (l.foldl (stepN addU (namF addU n)) o = RR) := hRR
  have HN := Lib.hid hN
  have HS := Lib.hid hS
  clear h hml hb0 hRR hN ih hS
  go_enter Tryz.func42, Tryz.ntmps42
  go_wp2
  go_loopw [11] (fun i wr => ∃ (k : Nat) (u1 : Value) (acc : List PR), k ≤ l.length ∧ i = .int .i64 k ∧ NS B gb hb wr u1 acc ∧ Mv gb u w u1 wr ∧ acc.length ≤ o.length + bulkL (bulkF n) (l.take k) ∧ (l.drop k).foldl (stepN addU (namF addU n)) acc = RR) (fun i _ => l.length - (intOf i).toNat)
  case atStart => exact ⟨0, u, o, Nat.zero_le _, rfl, HN.out, Mv.refl _ _ _, by simp [bulkL], HRR.out⟩
  case round =>
    obtain ⟨k, u1, acc, hk, rfl, hN1, hM1, hal, hF⟩ := hrel
    have HN1 := Lib.hid hN1
    have HM1 := Lib.hid hM1
    by_cases hlt : k < l.length
    · obtain ⟨p, hp⟩ : ∃ p, l[k]? = some p := ⟨_, List.getElem?_eq_getElem hlt⟩
      obtain ⟨A2, cap2, he, _, hat⟩ := lies_open (HN.out.lies hM1 HL.out HS.out)
      injection he with he1 he2 he3
      subst he1; subst he3
      obtain ⟨b, off, cv, rfl, hbb, hP, hC⟩ := hat k p hp
      obtain ⟨a0, a1, a2, a3, a4, a5, a6⟩ := hP
      obtain ⟨Ac, cc, rfl⟩ := hC.formL
      have hbL : o.length + bulkL (bulkF n) l ≤ 100000000 := HBB.out
      have hb2 := bulkL_take (bulkF n) l (k + 1)
      have hb3 := bulkL_next (K := bulkF n) hp
      have hdr : l.drop k = p :: l.drop (k + 1) := by
        rw [List.drop_eq_getElem_cons hlt, (List.getElem?_eq_some_iff.1 hp).2]
      have hsl := stepN_len addU_len (nam_len addU_len n) acc p
      have hF2 := hF
      rw [hdr, List.foldl_cons] at hF2
      have HF2 := Lib.hid hF2
      have HLN : Hid ((stepN addU (namF addU n) acc p).length ≤ o.length + bulkL (bulkF n) (l.take (k + 1))) := by unfold Hid; omega
      have HBC : Hid (acc.length + 1 + bulkC (bulkF n) p.cs ≤ 100000000) := by unfold Hid; omega
      have hx0 : Blk (wr.alloc (.cells #[.int .i64 p.k, .string p.tx, .string p.nm, .string p.ty, .string p.st, .int .i64 p.off, .slice Ac p.cs.length cc] 47)) wr.heap.size 47 #[.int .i64 p.k, .string p.tx, .string p.nm, .string p.ty, .string p.st, .int .i64 p.off, .slice Ac p.cs.length cc] := Blk.new _ _ _
      have hkx : Keep [] wr (wr.alloc (.cells #[.int .i64 p.k, .string p.tx, .string p.nm, .string p.ty, .string p.st, .int .i64 p.off, .slice Ac p.cs.length cc] 47)) := (Keep.refl _ _).alloc _
      have hNx := hN1.nil hkx
      have hMx := hM1.nil hkx
      have hCx := hC.keep hkx (by simp)
      have hbx : B ≤ wr.heap.size := Nat.le_trans hBw hM1.1.size
      clear hC hF hF2 hdr hsl hN1 hM1 hat
      go_upto_region 3 with fail
      generalize hW1 : wr.alloc (.cells #[.int .i64 p.k, .string p.tx, .string p.nm, .string p.ty, .string p.st, .int .i64 p.off, .slice Ac p.cs.length cc] 47) = W1 at *
      have hpb : wr.heap.size < W1.heap.size := hx0.lt
      have hbx' : B ≤ W1.heap.size := by omega
      generalize wr.heap.size = pb at *
      clear a0 a1 a2 a3 a4 a5 a6 hkx hW1 hbb
      have x0 : W1.cell? ⟨pb, 0, none⟩ = some (.int .i64 p.k) := hx0.cell_eq rfl
      have x1 : W1.cell? ⟨pb, 1, none⟩ = some (.string p.tx) := hx0.cell_eq rfl
      have x2 : W1.cell? ⟨pb, 2, none⟩ = some (.string p.nm) := hx0.cell_eq rfl
      have x3 : W1.cell? ⟨pb, 3, none⟩ = some (.string p.ty) := hx0.cell_eq rfl
      have x4 : W1.cell? ⟨pb, 4, none⟩ = some (.string p.st) := hx0.cell_eq rfl
      have x5 : W1.cell? ⟨pb, 5, none⟩ = some (.int .i64 p.off) := hx0.cell_eq rfl
      have x6 : W1.cell? ⟨pb, 6, none⟩ = some (.slice Ac p.cs.length cc) := hx0.cell_eq rfl
      have xg : W1.cell? ⟨gb, 0, none⟩ = some u1 := hNx.hg.cell_eq rfl
      have HX := Lib.hid hx0
      have HNX := Lib.hid hNx
      have HMX := Lib.hid hMx
      have HCX := Lib.hid hCx
      clear hx0 hNx hMx hCx
      go_cut [22] (fun c W => c = .bool (decide (3 ≤ p.k ∧ p.k ≤ 6)) ∧ W = W1)
      case first =>
        by_cases h3 : 3 ≤ p.k
        · by_cases h6 : p.k ≤ 6
          · go_wp2
            go_meet
            exact ⟨by simp [h3, h6], rfl⟩
          · go_wp2
            go_meet
            exact ⟨by simp [h3, h6], rfl⟩
        · go_wp2
          go_meet
          exact ⟨by rw [decide_eq_false (by omega)], rfl⟩
      case rest =>
        obtain ⟨rfl, rfl⟩ := hcut
        go_upto_if 22 with fail
        go_cut [] (fun W => ∃ u2, NS B gb hb W u2 (if 3 ≤ p.k ∧ p.k ≤ 6 then addU acc (p.nm, asksB p) else acc) ∧ Mv gb u1 wc u2 W)
        case first =>
          by_cases hin : 3 ≤ p.k ∧ p.k ≤ 6
          · rw [decide_eq_true hin]
            have HIX := Lib.hid (idxPair_any u1 acc p.nm pb wc hpb x2 HNX.out.own (by have := HBC.out; omega))
            have hlen : acc.length ≤ 100000000 := by have := HBC.out; omega
            obtain ⟨Au, cu, hu, _, hat⟩ := HNX.out.own.form
            subst hu
            have HLU : Hid (some gb ≠ (Value.slice Au acc.length cu).ownBlock) := fun hc => HNX.out.gu.1 (by rw [← hc]; simp)
            have HLH : Hid (some hb ≠ (Value.slice Au acc.length cu).ownBlock) := fun hc => HNX.out.gu.2 (by rw [← hc]; simp)
            rcases addU_find (p.nm, asksB p) acc 0 with ⟨hf, ha⟩ | ⟨i, x, hx, hf, ha⟩
            · rw [show (fun k => decide (k = p.nm)) = (fun k => decide (k = (p.nm, asksB p).1)) from rfl, hf] at HIX
              have HCUT : Hid ((if 3 ≤ p.k ∧ p.k ≤ 6 then addU acc (p.nm, asksB p) else acc) = acc ++ [(p.nm, asksB p)]) := by unfold Hid; rw [if_pos hin, ha]
              obtain ⟨ip, hip, ip0, ip1, ip2⟩ := info_parts infoPair
              have HIP := Lib.hid hip
              have HIP0 := Lib.hid ip0
              have HIP1 := Lib.hid ip1
              have HIP2 := Lib.hid ip2
              clear hip ip0 ip1 ip2 hf ha hin hat
              go_upto_region 6 with (go_at_call 43; refine HIX.out.mono ?_; rintro e w2 ⟨rfl, hk2⟩; have hx2 := HX.out.keep hk2 (by simp); have hN2 := HNX.out.nil hk2; have y0 := hx2.cell_eq (i := 0) (v := .int .i64 p.k) rfl; have y1 := hx2.cell_eq (i := 1) (v := .string p.tx) rfl; have y2 := hx2.cell_eq (i := 2) (v := .string p.nm) rfl; have y3 := hx2.cell_eq (i := 3) (v := .string p.ty) rfl; have y4 := hx2.cell_eq (i := 4) (v := .string p.st) rfl; have y5 := hx2.cell_eq (i := 5) (v := .int .i64 p.off) rfl; have y6 := hx2.cell_eq (i := 6) (v := .slice Ac p.cs.length cc) rfl; have xg2 : w2.cell? ⟨gb, 0, none⟩ = some (.slice Au acc.length cu) := hN2.hg.cell_eq rfl; have HK2 := Lib.hid hk2; have HX2 := Lib.hid hx2; have HN2 := Lib.hid hN2; have hz2 := hk2.size; clear hx2 hN2 hk2 x0 x1 x2 x3 x4 x5 x6 xg)
              go_region_law (first | (refine step_append_lies _ (by rfl) _ _ _ (by rfl) B 44 ip _ 2 32 Tryz.underlying41 HIP.out HIP0.out HIP1.out HIP2.out rfl (by omega) (.slice Au acc.length cu) acc.length (pairC acc) (by rfl) (World.ownsRow.alloc HN5.out.own _) ⟨w5.heap.size, 0, none⟩ 1 1 [.string p.nm, .string (asksB p)] (by rfl) (by rfl) (World.news_of_block (cs := #[.string p.nm, .string (asksB p)]) (t := 44) (fr := (0, 0)) (heap_alloc_new w5 _)) (by simp [Value.oneCell']) (by omega) (by unfold maxLen; omega) (by omega) (by simp; omega) (w5.heap.size + 1) (by simp) ?_; intro gg cap6 w6 hown6 hgrow hat6 hlt6; have hl6 : Blk w6 gb 41 #[.slice Au acc.length cu] := Blk.grown (Blk.alloc HN5.out.hg _) hgrow HLU.out; have l6 : w6.cell? ⟨gb, 0, none⟩ = some (.slice Au acc.length cu) := hl6.cell_eq rfl; have z6 := hl6.frozen 0; have HL6 := Lib.hid hl6; clear hl6) | (go_simp; go_at_call 45; refine (asks_any p _ _).mono ?_; rintro e w5 ⟨rfl, hk5⟩; have hk25 : Keep [] w2 w5 := Keep.nil (by repeat (first | exact Keep.refl _ _ | refine Keep.drew ?_ | refine Keep.drewN ?_ _ | refine Keep.alloc ?_ _)) hk5; have hN5 := HN2.out.nil hk25; have hx5 := HX2.out.keep hk25 (by simp); have v0 := hx5.cell_eq (i := 0) (v := .int .i64 p.k) rfl; have v1 := hx5.cell_eq (i := 1) (v := .string p.tx) rfl; have v2 := hx5.cell_eq (i := 2) (v := .string p.nm) rfl; have v3 := hx5.cell_eq (i := 3) (v := .string p.ty) rfl; have v4 := hx5.cell_eq (i := 4) (v := .string p.st) rfl; have v5 := hx5.cell_eq (i := 5) (v := .int .i64 p.off) rfl; have v6 := hx5.cell_eq (i := 6) (v := .slice Ac p.cs.length cc) rfl; have hgl5 : gb < w5.heap.size := hN5.hg.lt; have yg : w5.cell? ⟨gb, 0, none⟩ = some (.slice Au acc.length cu) := hN5.hg.cell_eq rfl; have HN5 := Lib.hid hN5; have HK25 := Lib.hid hk25; have hz5 := hk25.size; clear hx5 hN5 hk25 hk5))
              all_goals
                go_wp2_with fail
                go_meet
                have hng : gb ≠ gg := by
                  intro hc
                  subst hc
                  rcases hat6 with h | h
                  · exact HLU.out h.symm
                  · omega
                have hk56 : Keep (Value.slice Au acc.length cu).ownBlock.toList w5 w6 := ((Keep.refl _ w5).alloc _).grown hgrow fun k hk => .inl (by simpa using hk)
                have hks : ∀ y : Value, Keep [gb] w6 (w6.setCell ⟨gb, 0, none⟩ y) := fun y => (Keep.refl _ _).setCell (.inl (by simp)) _
                have hh6 : Blk w6 hb 71 #[walkV gb hb] := Blk.grown (Blk.alloc HN5.out.hh _) hgrow HLH.out
                have hO6 : OwnP w6 B (.slice (some ⟨gg, 0, none⟩) (acc.length + 1) cap6) (acc ++ [(p.nm, asksB p)]) := by
                  unfold OwnP
                  rw [pairC_append, List.length_append]
                  exact hown6
                refine ⟨.slice (some ⟨gg, 0, none⟩) (acc.length + 1) cap6, by rw [HCUT.out]; exact ⟨Blk.set_ HL6.out 0 _, hh6.far (p := ⟨gb, 0, none⟩) (fun h => HNX.out.gh h.symm) _, hO6.keep (hks _) (fun x hx hc => by simp [Value.ownBlock] at hx hc; omega), HNX.out.gB, HNX.out.hB, HNX.out.gh⟩, ?_, fun x hx => ?_⟩
                · refine ((HK2.out.nil HK25.out).mono (fun x hx => by cases hx)).same ((hk56.mono (fun x hx => .inl (List.mem_cons_of_mem _ hx))).same ((hks _).mono (fun x hx => .inl (by simp at hx; simp [hx]))))
                · simp [Value.ownBlock] at hx
                  subst hx
                  rcases hat6 with h | h
                  · exact .inl (by simp [h])
                  · exact .inr (by omega)
            · rw [Nat.zero_add] at hf
              rw [show (fun k => decide (k = p.nm)) = (fun k => decide (k = (p.nm, asksB p).1)) from rfl, hf] at HIX
              have hil : i < acc.length := (List.getElem?_eq_some_iff.1 hx).1
              obtain ⟨g, rfl, hBg, hgl, e0, e1⟩ := hat i x hx
              have hb2 := bytes_beq x.2 ⟨#[]⟩
              rw [show ByteArray.toList ⟨#[]⟩ = [] by rw [ByteArray.toList_eq]] at hb2
              have hng : gb ≠ g := by have := HNX.out.gB; omega
              have hnh : hb ≠ g := by have := HNX.out.hB; omega
              have HHX := Lib.hid hx
              by_cases h2 : x.2 = ⟨#[]⟩
              · rw [decide_eq_true h2] at hb2
                have HCUT : Hid ((if 3 ≤ p.k ∧ p.k ≤ 6 then addU acc (p.nm, asksB p) else acc) = acc.set i (x.1, asksB p)) := by unfold Hid; rw [if_pos hin, ha, if_pos h2]
                clear hf ha hin hat hx h2
                go_upto_region 8 with (go_at_call 43; refine HIX.out.mono ?_; rintro e w2 ⟨rfl, hk2⟩; have hx2 := HX.out.keep hk2 (by simp); have hN2 := HNX.out.nil hk2; have y0 := hx2.cell_eq (i := 0) (v := .int .i64 p.k) rfl; have y1 := hx2.cell_eq (i := 1) (v := .string p.tx) rfl; have y2 := hx2.cell_eq (i := 2) (v := .string p.nm) rfl; have y3 := hx2.cell_eq (i := 3) (v := .string p.ty) rfl; have y4 := hx2.cell_eq (i := 4) (v := .string p.st) rfl; have y5 := hx2.cell_eq (i := 5) (v := .int .i64 p.off) rfl; have y6 := hx2.cell_eq (i := 6) (v := .slice Ac p.cs.length cc) rfl; have xg2 : w2.cell? ⟨gb, 0, none⟩ = some (.slice (some ⟨g, 0, none⟩) acc.length cu) := hN2.hg.cell_eq rfl; have c1 : w2.cell? ⟨g, i * 2 + 1, none⟩ = some (.string x.2) := (hk2.cell (p := ⟨g, i * 2 + 1, none⟩) hgl (by simp)).trans e1; have HK2 := Lib.hid hk2; have HX2 := Lib.hid hx2; have HN2 := Lib.hid hN2; have hz2 := hk2.size; clear hx2 hN2 hk2 x0 x1 x2 x3 x4 x5 x6 xg)
                have hgl2 : g < w2.heap.size := Nat.lt_of_lt_of_le hgl hz2
                go_region_law (go_simp; go_at_call 45; refine (asks_any p _ _).mono ?_; rintro e w5 ⟨rfl, hk5⟩; have hk25 : Keep [] w2 w5 := Keep.nil (by repeat (first | exact Keep.refl _ _ | refine Keep.drew ?_ | refine Keep.drewN ?_ _ | refine Keep.alloc ?_ _)) hk5; have hN5 := HN2.out.nil hk25; have hx5 := HX2.out.keep hk25 (by simp); have v0 := hx5.cell_eq (i := 0) (v := .int .i64 p.k) rfl; have v1 := hx5.cell_eq (i := 1) (v := .string p.tx) rfl; have v2 := hx5.cell_eq (i := 2) (v := .string p.nm) rfl; have v3 := hx5.cell_eq (i := 3) (v := .string p.ty) rfl; have v4 := hx5.cell_eq (i := 4) (v := .string p.st) rfl; have v5 := hx5.cell_eq (i := 5) (v := .int .i64 p.off) rfl; have v6 := hx5.cell_eq (i := 6) (v := .slice Ac p.cs.length cc) rfl; have hgl5 : gb < w5.heap.size := hN5.hg.lt; have yg : w5.cell? ⟨gb, 0, none⟩ = some (.slice (some ⟨g, 0, none⟩) acc.length cu) := hN5.hg.cell_eq rfl; have c5 : w5.cell? ⟨g, i * 2 + 1, none⟩ = some (.string x.2) := (hk25.cell (p := ⟨g, i * 2 + 1, none⟩) hgl2 (by simp)).trans c1; have f5 : w5.frozen? ⟨g, i * 2 + 1, none⟩ = false := World.ownsRow.frozenAt hN5.own _; have HN5 := Lib.hid hN5; have HK25 := Lib.hid hk25; have hz5 := hk25.size; clear hx5 hN5 hk25 hk5)
                all_goals
                  go_wp2_with fail
                  go_meet
                  have hks : ∀ y : Value, Keep [g] w5 (w5.setCell ⟨g, i * 2 + 1, none⟩ y) := fun y => (Keep.refl _ _).setCell (.inl (by simp)) _
                  refine ⟨.slice (some ⟨g, 0, none⟩) acc.length cu, by rw [HCUT.out]; exact ⟨HN5.out.hg.keep (hks _) (by simpa using hng), HN5.out.hh.keep (hks _) (by simpa using hnh), OwnP.set HN5.out.own HHX.out _, HNX.out.gB, HNX.out.hB, HNX.out.gh⟩, ?_, fun y hy => .inl hy⟩
                  exact ((HK2.out.nil HK25.out).mono (fun y hy => by cases hy)).same ((hks _).mono (fun y hy => .inl (by simp at hy; simp [hy, Value.ownBlock])))
              · rw [decide_eq_false h2] at hb2
                have HCUT : Hid ((if 3 ≤ p.k ∧ p.k ≤ 6 then addU acc (p.nm, asksB p) else acc) = acc) := by
                  unfold Hid
                  rw [if_pos hin, ha, if_neg h2]
                  apply List.ext_getElem?
                  intro j
                  rw [List.getElem?_set]
                  split
                  · subst_vars; first | exact hx.symm | (rw [if_pos hil]; exact hx.symm)
                  · rfl
                clear hf ha hin hat hx h2
                go_wp2_with (go_at_call 43; refine HIX.out.mono ?_; rintro e w2 ⟨rfl, hk2⟩; have hx2 := HX.out.keep hk2 (by simp); have hN2 := HNX.out.nil hk2; have y0 := hx2.cell_eq (i := 0) (v := .int .i64 p.k) rfl; have y1 := hx2.cell_eq (i := 1) (v := .string p.tx) rfl; have y2 := hx2.cell_eq (i := 2) (v := .string p.nm) rfl; have y3 := hx2.cell_eq (i := 3) (v := .string p.ty) rfl; have y4 := hx2.cell_eq (i := 4) (v := .string p.st) rfl; have y5 := hx2.cell_eq (i := 5) (v := .int .i64 p.off) rfl; have y6 := hx2.cell_eq (i := 6) (v := .slice Ac p.cs.length cc) rfl; have xg2 : w2.cell? ⟨gb, 0, none⟩ = some (.slice (some ⟨g, 0, none⟩) acc.length cu) := hN2.hg.cell_eq rfl; have c1 : w2.cell? ⟨g, i * 2 + 1, none⟩ = some (.string x.2) := (hk2.cell (p := ⟨g, i * 2 + 1, none⟩) hgl (by simp)).trans e1; have HK2 := Lib.hid hk2; have HX2 := Lib.hid hx2; have HN2 := Lib.hid hN2; have hz2 := hk2.size; clear hx2 hN2 hk2 x0 x1 x2 x3 x4 x5 x6 xg)
                go_meet
                exact ⟨_, by rw [HCUT.out]; exact HN2.out, Mv.of_nil HK2.out⟩
          · have HCUT : Hid ((if 3 ≤ p.k ∧ p.k ≤ 6 then addU acc (p.nm, asksB p) else acc) = acc) := by unfold Hid; rw [if_neg hin]
            rw [decide_eq_false hin]
            clear hin
            go_wp2
            go_meet
            exact ⟨u1, by rw [HCUT.out]; exact HNX.out, Mv.refl _ _ _⟩
        case rest =>
          obtain ⟨u2, hN2, hM2⟩ := hcut
          have hx2 := HNX.out.far hM2 HX.out (by decide) (by decide)
          have hC2 := HNX.out.liesC hM2 HCX.out HS.out
          clear x0 x1 x2 x3 x4 x5 x6 xg
          have x0 := hx2.cell_eq (i := 0) (v := .int .i64 p.k) rfl; have x1 := hx2.cell_eq (i := 1) (v := .string p.tx) rfl; have x2 := hx2.cell_eq (i := 2) (v := .string p.nm) rfl; have x3 := hx2.cell_eq (i := 3) (v := .string p.ty) rfl; have x4 := hx2.cell_eq (i := 4) (v := .string p.st) rfl; have x5 := hx2.cell_eq (i := 5) (v := .int .i64 p.off) rfl; have x6 := hx2.cell_eq (i := 6) (v := .slice Ac p.cs.length cc) rfl
          have hCA := cases_any p Ac p.cs.length cc wc hC2
          have HCA := Lib.hid hCA
          have HN2 := Lib.hid hN2
          have HM2 := Lib.hid hM2
          have hBc : B ≤ wc.heap.size := Nat.le_trans hbx' hM2.1.size
          clear hx2 hC2 hCA hN2 hM2
          go_wp2_with (go_at_call 46; refine HCA.out.mono ?_; rintro e w3 ⟨A3, c3, rfl, hC3, hk3⟩; have HC3 := Lib.hid hC3; have HK3 := Lib.hid hk3; clear hC3 hk3)
          go_loopw [51] (fun j wx => ∃ (m : Nat) (u4 : Value) (acc4 : List PR), m ≤ (casesP p).length ∧ j = .int .i64 m ∧ NS B gb hb wx u4 acc4 ∧ Mv gb u2 w3 u4 wx ∧ acc4.length ≤ acc.length + 1 + bulkC (bulkF n) ((casesP p).take m) ∧ ((casesP p).drop m).foldl (stepC (namF addU n)) acc4 = stepN addU (namF addU n) acc p) (fun j _ => (casesP p).length - (intOf j).toNat)
          case atStart =>
            refine ⟨0, u2, _, Nat.zero_le _, rfl, HN2.out.nil HK3.out, Mv.refl _ _ _, ?_, rfl⟩
            have := addU_len acc (p.nm, asksB p)
            split <;> omega
          case round =>
            obtain ⟨m, u4, acc4, hm, rfl, hN4, hM4, hal4, hF4⟩ := hrel
            have HF4 := Lib.hid hF4
            have hN3 := HN2.out.nil HK3.out
            have hcb : bulkC (bulkF n) (casesP p) ≤ bulkC (bulkF n) p.cs := by
              unfold casesP; split
              · exact Nat.zero_le _
              · exact Nat.le_refl _
            have hcl : (casesP p).length ≤ 100000000 := by have := bulkC_len (bulkF n) (casesP p); have := HBC.out; omega
            by_cases hlt2 : m < (casesP p).length
            · obtain ⟨c, hc⟩ : ∃ c, (casesP p)[m]? = some c := ⟨_, List.getElem?_eq_getElem hlt2⟩
              obtain ⟨A4, c4, he, _, hcat⟩ := liesC_open (hN3.liesC hM4 HC3.out HS.out)
              injection he with he1 he2 he3
              subst he1; subst he3
              obtain ⟨b2, o2, pv, rfl, hb2', g1, g2, hLc⟩ := hcat m c hc
              have hbn := bulkC_next (K := bulkF n) hc
              have hbt := bulkC_take (bulkF n) (casesP p) (m + 1)
              have hnl := nam_len addU_len n c.2 acc4
              have hHB := HBC.out
              have hdr : (casesP p).drop m = c :: (casesP p).drop (m + 1) := by
                rw [List.drop_eq_getElem_cons hlt2, (List.getElem?_eq_some_iff.1 hc).2]
              have hF5 := HF4.out
              rw [hdr, List.foldl_cons] at hF5
              have HF5 := Lib.hid hF5
              have HLB : Hid ((namF addU n c.2 acc4).length ≤ acc.length + 1 + bulkC (bulkF n) ((casesP p).take (m + 1))) := by unfold Hid; omega
              obtain ⟨Ap, mp, kp, rfl⟩ := hLc.form
              have hBx := Nat.le_trans (Nat.le_trans hBc HK3.out.size) hM4.1.size
              have hkx : Keep [] wr (wr.alloc (.cells #[.string c.1, .slice Ap mp kp] 51)) := (Keep.refl _ _).alloc _
              have z0 : (wr.alloc (.cells #[.string c.1, .slice Ap mp kp] 51)).cell? ⟨hb, 0, none⟩ = some (walkV gb hb) := (hN4.hh.keep hkx (by simp)).cell_eq rfl
              have HREC := Lib.hid (HIH.out c.2 S (.slice Ap mp kp) u4 acc4 B gb hb _ (hLc.keep hkx (by simp)) (hN4.nil hkx) (Nat.le_trans hBx hkx.size) HS.out (by omega))
              have HKX := Lib.hid hkx
              have HM4 := Lib.hid hM4
              clear hN4 hM4 hal4 hF4 hN3 hcat hLc hbn hbt hnl hHB hdr hF5 hkx hc hcb
              go_wp2_with fail
              refine HREC.out.mono ?_
              rintro e w5 ⟨u5, rfl, hN5, hM5⟩
              go_wp2
              go_roundw
              case rel => exact ⟨m + 1, u5, _, by omega, by go_num, hN5, (HM4.out.nil HKX.out).trans hM5, HLB.out, HF5.out⟩
              case measure => simp [intOf]; omega
            · obtain rfl : m = (casesP p).length := by omega
              rw [List.drop_length] at hF4
              have HF5 : Hid (acc4 = stepN addU (namF addU n) acc p) := hF4
              have HN4 := Lib.hid hN4
              have HM4 := Lib.hid hM4
              clear hF4 hN4 hM4
              go_wp2
              go_roundw
              case rel => exact ⟨k + 1, u4, acc4, by omega, by go_num, HN4.out, ((HMX.out.trans HM2.out).nil HK3.out).trans HM4.out, by rw [HF5.out]; exact HLN.out, by rw [HF5.out]; exact HF2.out⟩
              case measure => simp [intOf]; omega
    · obtain rfl : k = l.length := by omega
      go_wp2
      go_end0
      rw [List.drop_length] at hF
      rw [← hF]
      exact ⟨_, rfl, HN1.out, HM1.out⟩
theorem names1_any : ∀ n, NmC n
  | 0 => fun _ _ _ _ _ _ _ _ _ h => h.elim
  | n + 1 => names1_step n (names1_any n)
end Go.Proofs.YtjldgcpmdcoejaaGreatDoor

namespace Go.Proofs.YtjldgcpmdcoejaaGreatDoor
open Go.RowKit Go.Sort

/-- A pair's cells. -/
def encP (x : PR) : List Value := [.string x.1, .string x.2]
theorem flat_pair (l : List PR) : (flatK encP 2 l.toArray).toList = pairC l := by
  apply List.ext_getElem?
  intro t
  by_cases ht : t < l.length * 2
  · have hi : t / 2 < l.length := by omega
    have h1 : (flatK encP 2 l.toArray)[t]! = (encP l.toArray[t / 2]!)[t % 2]! := get_flatK encP 2 l.toArray t (by simpa using ht)
    have h2 : (flatK encP 2 l.toArray).toList[t]? = some ((encP l.toArray[t / 2]!)[t % 2]!) := by
      rw [Array.getElem?_toList, ← h1, getElem!_pos _ t (by simpa using ht)]
      exact Array.getElem?_eq_getElem _
    have h3 : l.toArray[t / 2]! = l[t / 2] := by rw [getElem!_pos _ _ (by simpa using hi)]; simp
    obtain ⟨p1, p2⟩ := pairC_at l (t / 2) l[t / 2] (List.getElem?_eq_getElem hi)
    rw [h2, h3]
    rcases Nat.mod_two_eq_zero_or_one t with h | h
    · rw [h]
      have e : t = t / 2 * 2 := by omega
      generalize t / 2 = i at *
      subst e
      rw [p1]; rfl
    · rw [h]
      have e : t = t / 2 * 2 + 1 := by omega
      generalize t / 2 = i at *
      subst e
      rw [p2]; rfl
  · rw [List.getElem?_eq_none (by rw [Array.length_toList, size_flatK]; simpa using ht), List.getElem?_eq_none (by rw [pairC_length]; omega)]
section
variable {w : World} {g n : Nat} {os : Array Obj} {cur : Array Value} {e : TypeId} {fr : Nat × Nat}
theorem heap_sortedV (F : Array Value) (hb : w.heap[g]? = some (.cells cur e fr)) : (grow (putRow id (Sort.ahead w n) g 0 F) os).heap[g]? = some (.cells (putCells id 0 F cur) e fr) := by
  have hg : g < w.heap.size := (Array.getElem?_eq_some_iff.1 hb).1
  rw [heap_grow_old _ _ (by simpa using hg)]
  simp [putRow, mapBlock, Sort.ahead, Array.getElem?_modify, hb, onCells]
theorem keep_sortedV (F : Array Value) : Keep [g] w (grow (putRow id (Sort.ahead w n) g 0 F) os) := by
  refine ⟨rfl, rfl, rfl, by simp, fun k hk hne => ?_⟩
  rw [heap_grow_old _ _ (by simpa using hk)]
  have : g ≠ k := fun e => hne (by simp [e])
  simp [putRow, mapBlock, Sort.ahead, Array.getElem?_modify, this]
theorem take_putCellsV (F : Array Value) (h : F.size ≤ cur.size) : (putCells id 0 F cur).toList.take F.size = F.toList := by
  apply List.ext_getElem?
  intro j
  by_cases hj : j < F.size
  · rw [List.getElem?_take_of_lt hj, Array.getElem?_toList]
    simp [putCells, hj, show j < cur.size by omega]
  · rw [List.getElem?_take_eq_none (by omega), List.getElem?_eq_none (by simp; omega)]
end
/-- Behind the sort the same slice holds the sorted pairs. -/
theorem ownP_sorted {w : World} {B g cap n : Nat} {os : Array Obj} {l : List PR} (d : Array PR) (hd : d.size = l.length) (h : OwnP w B (.slice (some ⟨g, 0, none⟩) l.length cap) l) : OwnP (sortWorldK encP 2 w g 0 n d os) B (.slice (some ⟨g, 0, none⟩) l.length cap) d.toList := by
  rcases h.2 with ⟨h0, _⟩ | ⟨g', cap', cur, hv, hB, hg, h1, h2, h3, h4⟩
  · cases h0
  · injection hv with e1 e2 e3
    injection e1 with e1
    injection e1 with e1
    subst e1; subst e3
    have hf : (flatK encP 2 d).toList = pairC d.toList := flat_pair d.toList
    have hl : d.toList.length = l.length := by simpa using hd
    refine ⟨pairC_length _, .inr ⟨g, cap, _, by rw [hl], hB, heap_sortedV _ hg, by rw [hl]; exact h1, h2, by simp [putCells, h3], ?_⟩⟩
    have := take_putCellsV (cur := cur) (flatK encP 2 d) (by rw [size_flatK, h3, hd]; exact Nat.mul_le_mul_right 2 h1)
    rw [size_flatK, hf, hd] at this
    rw [hl]
    exact this
theorem holdsP {w : World} {B g cap : Nat} {l : List PR} (h : OwnP w B (.slice (some ⟨g, 0, none⟩) l.length cap) l) : HoldsK encP 2 w g 0 l.toArray := by
  rcases h.2 with ⟨h0, _⟩ | ⟨g', cap', cur, hv, hB, hg, h1, h2, h3, h4⟩
  · cases h0
  · injection hv with e1 e2 e3
    injection e1 with e1
    injection e1 with e1
    subst e1
    intro j hj
    have hj' : j < l.length * 2 := by simpa using hj
    refine ⟨?_, by simp [World.frozen?, hg]⟩
    rw [Nat.zero_add, World.ownsRow.cellAt h j hj', ← flat_pair, Array.getElem?_toList, Array.getElem?_eq_getElem hj, getElem!_pos _ j hj]
    rfl
theorem compare_lt : ∀ a b : List UInt8, Lib.compareBytes a b < 0 ↔ a < b
  | [], [] => by simp [Lib.compareBytes]
  | [], _ :: _ => by simp [Lib.compareBytes]
  | _ :: _, [] => by simp [Lib.compareBytes]
  | a :: x, b :: y => by
    have ih := compare_lt x y
    unfold Lib.compareBytes
    rw [List.cons_lt_cons_iff]
    by_cases h1 : a < b
    · simp [h1]
    · by_cases h2 : b < a
      · have : a ≠ b := fun e => by subst e; exact h1 h2
        simp [h1, h2, this]
      · have : a = b := UInt8.le_antisymm (UInt8.not_lt.1 h2) (UInt8.not_lt.1 h1)
        subst this
        simp [h1, ih]
def cmpP (x y : PR) : Int := Lib.compareBytes x.1.data.toList y.1.data.toList
theorem ltP (x y : PR) : ltOf cmpP x y = kLt x.1 y.1 := by
  unfold ltOf cmpP kLt
  exact decide_eq_decide.2 (compare_lt _ _)
theorem swoP : SWO (ltOf cmpP) where
  irrefl x := by rw [ltP]; exact kLt_irrefl _
  trans x y z h1 h2 := by rw [ltP] at *; exact kLt_trans h1 h2
  ntrans x y z h1 h2 := by
    rw [ltP] at *
    cases h : kLt x.1 z.1
    · rfl
    · cases h3 : kLt y.1 x.1
      · have := kLt_eq h1 h3; rw [this, h2] at h; cases h
      · rw [kLt_trans h3 h] at h2; cases h2
set_option maxRecDepth 100000 in
set_option maxHeartbeats 1000000 in
theorem cmp_any (x y : PR) (W : World) : Calls Tryz.prog 48 #[.agg #[.string x.1, .string x.2], .agg #[.string y.1, .string y.2]] W fun e w' => e = .returned (.int .i64 (cmpP x y)) ∧ ∃ q os', w' = grow (W.drewN q) os' := by
  have hcon := fun W' => Tryz.strings_Compare x.1 y.1 W'
  have hr : Lib.compareBytes x.1.data.toList y.1.data.toList = cmpP x y := rfl
  rw [hr] at hcon
  clear hr
  generalize cmpP x y = r at hcon ⊢
  go_enter Tryz.func48, Tryz.ntmps48
  go_wp2_with (go_at_call 49; refine (hcon _).mono ?_; rintro e w' ⟨rfl, rfl⟩)
  go_ret
  exact ⟨rfl, 0, _, by rw [alloc_eq_grow, alloc_eq_grow, grow_grow]; rfl⟩
set_option maxRecDepth 100000 in
set_option maxHeartbeats 1000000 in
/-- SortFunc over the names of Names. -/
theorem sort_any {B : Nat} (v : Value) (o r : List PR) (w : World) (hO : OwnP w B v o) (ht : Together o r) (hl : o.length ≤ 1000000000) :
    Calls Tryz.prog 47 #[v, .func (.func 48) #[] #[]] w fun e w' => e = .returned (.tuple #[]) ∧ OwnP w' B v r ∧ Keep v.ownBlock.toList w w' := by
  rcases hO.2 with ⟨rfl, h0⟩ | ⟨g, cap, cur, rfl, hB, hg, h1, h2, h3, h4⟩
  · have ho : o = [] := List.eq_nil_of_length_eq_zero h0
    subst ho
    have hr : r = [] := List.Perm.eq_nil ht.1.symm
    subst hr
    exact (sort_nil _ w).mono fun e w' ⟨he, hw⟩ => ⟨he, by subst hw; exact OwnP.nil _ _, by subst hw; exact Keep.refl _ _⟩
  · have eg : ∀ args w, (callFunc 48 args).run Tryz.prog w = .ok (.enter 48 args) w := enters_of Tryz.func48 (by kernel_rfl) rfl
    have hcon := AnyQ.slices_SortFunc Tryz.laysSort 2 Tryz.isAgg44 Tryz.sizeOf44 encP (fun _ => rfl) (fun x v hv => by simp [encP] at hv; rcases hv with rfl | rfl <;> rfl) cmpP swoP 48 #[] g 0 cap o.toArray w eg (fun _ _ _ _ x y => cmp_any x y _) (holdsP hO) (Array.getElem?_eq_some_iff.1 hg).1 (by simp; omega)
    change Calls Tryz.prog 47 _ _ _ at hcon
    refine hcon.mono ?_
    rintro e w' ⟨rfl, d', n, os, ⟨hs, _, hp⟩, hso, rfl⟩
    have hs' : d'.size = o.length := by simpa using hs
    have hd : d'.toList = r := by
      refine rise_unique ht ?_ ?_
      · have e1 : d'.extract 0 o.toArray.size = d' := by rw [← hs]; simp
        have e2 : o.toArray.extract 0 o.toArray.size = o.toArray := by simp
        rw [e1, e2] at hp
        exact hp
      · rw [List.pairwise_iff_getElem]
        intro i j hi hj hij
        have := hso i j (Nat.zero_le _) hij (by simp at hj ⊢; omega)
        rw [ltP, getElem!_pos _ j (by simpa using hj), getElem!_pos _ i (by simpa using hi)] at this
        simpa using this
    refine ⟨rfl, ?_, ?_⟩
    · have := ownP_sorted (n := n) (os := os) d' hs' hO
      rw [hd] at this
      exact this
    · exact keep_sortedV _
end Go.Proofs.YtjldgcpmdcoejaaGreatDoor

namespace Go.Proofs.YtjldgcpmdcoejaaGreatDoor
open Go.RowKit

set_option maxRecDepth 100000 in
set_option maxHeartbeats 1000000 in
/-- message.Names. -/
theorem names_any (n : Nat) (l : List PT) (S : Nat → Prop) (v : Value) (w : World) (h : Lies n S w v l) (hS : ∀ x, S x → x < w.heap.size) (hb : bulkF n l ≤ 100000000) :
    Calls Tryz.prog 20 #[v] w fun e w' => ∃ u, e = .returned u ∧ OwnP w' w.heap.size u (namF putR n l []) ∧ Keep [] w w' := by
  obtain ⟨A, m, c, rfl⟩ := h.form
  have hB : Blk ((w.alloc (.cells #[.slice none 0 0] 41)).alloc (.cells #[.nilFunc] 71)) (w.heap.size + 1) 71 #[.nilFunc] := Blk.new' _ _ _ _ (by simp)
  have b0 : ((w.alloc (.cells #[.slice none 0 0] 41)).alloc (.cells #[.nilFunc] 71)).cell? ⟨w.heap.size + 1, 0, none⟩ = some .nilFunc := hB.cell_eq rfl
  have zb := hB.frozen 0
  have hA3 : Blk ((w.alloc (.cells #[.slice none 0 0] 41)).alloc (.cells #[walkV w.heap.size (w.heap.size + 1)] 71)) w.heap.size 41 #[.slice none 0 0] := (Blk.new w 41 #[.slice none 0 0]).alloc _
  have hB3 : Blk ((w.alloc (.cells #[.slice none 0 0] 41)).alloc (.cells #[walkV w.heap.size (w.heap.size + 1)] 71)) (w.heap.size + 1) 71 #[walkV w.heap.size (w.heap.size + 1)] := Blk.new' _ _ _ _ (by simp)
  have b3 : ((w.alloc (.cells #[.slice none 0 0] 41)).alloc (.cells #[walkV w.heap.size (w.heap.size + 1)] 71)).cell? ⟨w.heap.size + 1, 0, none⟩ = some (walkV w.heap.size (w.heap.size + 1)) := hB3.cell_eq rfl
  have hk3 : Keep [] w ((w.alloc (.cells #[.slice none 0 0] 41)).alloc (.cells #[walkV w.heap.size (w.heap.size + 1)] 71)) := ((Keep.refl [] w).alloc _).alloc _
  have hN3 : NS (w.heap.size + 2) w.heap.size (w.heap.size + 1) ((w.alloc (.cells #[.slice none 0 0] 41)).alloc (.cells #[walkV w.heap.size (w.heap.size + 1)] 71)) (.slice none 0 0) [] := ⟨hA3, hB3, OwnP.nil _ _, by omega, by omega, by omega⟩
  have HN := Lib.hid (names1_any n l S (.slice A m c) (.slice none 0 0) [] (w.heap.size + 2) w.heap.size (w.heap.size + 1) _ (h.keep hk3 (by simp)) hN3 (by simp) (fun x hx => by have := hS x hx; omega) (by simpa using hb))
  have HK3 := Lib.hid hk3
  have HT := Lib.hid (Together.nam n l [] [] together_nil)
  have HL : Hid ((namF addU n l []).length ≤ 100000000) := by have := nam_len addU_len n l []; unfold Hid; simp at this; omega
  clear h hS hb hB hA3 hB3 hk3 hN3
  unfold walkV at b3 HN HK3
  go_enter Tryz.func20, Tryz.ntmps20
  go_wp2_with fail
  refine HN.out.mono ?_
  rintro e w4 ⟨u, rfl, hN4, hM4⟩
  have c4 : w4.cell? ⟨w.heap.size, 0, none⟩ = some u := hN4.hg.cell_eq rfl
  have hsrt := sort_any u _ _ w4 hN4.own HT.out (by have := HL.out; omega)
  obtain ⟨Au, cu, hu, _, _⟩ := hN4.own.form
  have HSRT := Lib.hid hsrt
  have HN4 := Lib.hid hN4
  have HK4 : Hid (Keep [] w w4) := HK3.out.trans hM4.1 (fun x hx => by simp [Value.ownBlock] at hx; exact .inr (by omega))
  clear hN4 hM4 b0 zb b3 hsrt
  subst hu
  go_wp2_with (go_at_call 47; refine HSRT.out.mono ?_; rintro e w5 ⟨rfl, hO5, hk5⟩; have c5 := (hk5.cell (p := ⟨w.heap.size, 0, none⟩) HN4.out.hg.lt HN4.out.gu.1).trans c4; have HO5 := Lib.hid hO5; have HK5 := Lib.hid hk5; clear hO5 hk5)
  go_ret
  exact ⟨_, rfl, HO5.out.le (by omega), HK4.out.trans HK5.out (fun x hx => .inr (by have := (HN4.out.own.lt x hx).1; omega))⟩
end Go.Proofs.YtjldgcpmdcoejaaGreatDoor
