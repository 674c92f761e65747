/- Plain: the code of a message: its texts, its instructions. No walk. -/
import Derived.Test.YtmfoiceofhcicaaGreatDoorNA
import Derived.Test.YtmfoiceofhcicaaGreatDoorPB
namespace Go.Proofs.YtmfoiceofhcicaaGreatDoor
open Go.RowKit

def w16 (n : Nat) : List UInt8 := [UInt8.ofNat n, UInt8.ofNat (n / 256)]
def w32 (n : Nat) : List UInt8 := [UInt8.ofNat n, UInt8.ofNat (n / 256), UInt8.ofNat (n / 65536), UInt8.ofNat (n / 16777216)]
theorem w16_len (n : Nat) : (w16 n).length = 2 := rfl
theorem w32_len (n : Nat) : (w32 n).length = 4 := rfl
/-- A text, if it is one. -/
def optT (t : ByteArray) : List ByteArray := if noB t then [] else [t]
def caseT (T : List PT → List ByteArray) : List CT → List ByteArray
  | [] => []
  | c :: cs => c.1 :: (T c.2 ++ caseT T cs)
def partT (T : List PT → List ByteArray) (p : PT) : List ByteArray :=
  if p.k = 1 then [p.tx] else if p.k = 2 then [] else if p.k = 3 then p.nm :: (optT p.ty ++ optT p.st) else p.nm :: caseT T p.cs
def textL (T : List PT → List ByteArray) : List PT → List ByteArray
  | [] => []
  | p :: l => partT T p ++ textL T l
/-- The texts of parts, as they are met. -/
def textF : Nat → List PT → List ByteArray
  | 0, _ => []
  | n + 1, l => textL (textF n) l
/-- A text put into texts that rise. -/
def addT : List ByteArray → ByteArray → List ByteArray
  | [], s => [s]
  | x :: r, s => if kLt x s = true then x :: addT r s else if x = s then x :: r else s :: x :: r
/-- Texts, rising, each once. -/
def poolF (ts : List ByteArray) : List ByteArray := ts.foldl addT []
def RiseT (r : List ByteArray) : Prop := r.Pairwise fun a b => kLt a b = true
theorem addT_mem {s y : ByteArray} : ∀ {r : List ByteArray}, y ∈ addT r s ↔ y = s ∨ y ∈ r
  | [] => by simp [addT]
  | x :: r => by
    unfold addT
    split
    · rw [List.mem_cons, addT_mem (r := r), List.mem_cons]
      constructor
      · rintro (h | h | h)
        · exact .inr (.inl h)
        · exact .inl h
        · exact .inr (.inr h)
      · rintro (h | h | h)
        · exact .inr (.inl h)
        · exact .inl h
        · exact .inr (.inr h)
    · split
      · rename_i hx
        rw [List.mem_cons]
        constructor
        · exact .inr
        · rintro (h | h)
          · exact .inl (h.trans hx.symm)
          · exact h
      · rw [List.mem_cons]
theorem RiseT.add {s : ByteArray} : ∀ {r : List ByteArray}, RiseT r → RiseT (addT r s)
  | [], _ => List.pairwise_singleton ..
  | x :: r, h => by
    have h1 := List.pairwise_cons.1 h
    unfold addT
    split
    · rename_i hx
      refine List.pairwise_cons.2 ⟨fun y hy => ?_, RiseT.add h1.2⟩
      rcases addT_mem.1 hy with rfl | hy
      · exact hx
      · exact h1.1 y hy
    · rename_i hx
      split
      · exact h
      · rename_i hne
        have hs : kLt s x = true := by
          cases hc : kLt s x
          · exact absurd (kLt_eq (by simpa using hx) hc) hne
          · rfl
        refine List.pairwise_cons.2 ⟨fun y hy => ?_, h⟩
        rcases List.mem_cons.1 hy with rfl | hy
        · exact hs
        · exact kLt_trans hs (h1.1 y hy)
theorem fold_mem {y : ByteArray} : ∀ (ts r : List ByteArray), y ∈ ts.foldl addT r ↔ y ∈ ts ∨ y ∈ r
  | [], r => by simp
  | s :: ts, r => by
    rw [List.foldl_cons, fold_mem ts, addT_mem, List.mem_cons]
    constructor
    · rintro (h | h | h)
      · exact .inl (.inr h)
      · exact .inl (.inl h)
      · exact .inr h
    · rintro ((h | h) | h)
      · exact .inr (.inl h)
      · exact .inl h
      · exact .inr (.inr h)
theorem fold_rise : ∀ (ts r : List ByteArray), RiseT r → RiseT (ts.foldl addT r)
  | [], _, h => h
  | _ :: ts, _, h => fold_rise ts _ (RiseT.add h)
theorem pool_mem {y : ByteArray} {ts : List ByteArray} : y ∈ poolF ts ↔ y ∈ ts := by
  unfold poolF
  rw [fold_mem]
  simp
theorem pool_rise (ts : List ByteArray) : RiseT (poolF ts) := fold_rise ts [] List.Pairwise.nil
theorem RiseT.nodup {r : List ByteArray} (h : RiseT r) : r.Nodup := List.Pairwise.imp (fun h => kLt_ne h) h
/-- Texts that rise are known by what is among them. -/
theorem riseT_unique : ∀ {a b : List ByteArray}, RiseT a → RiseT b → (∀ x, x ∈ a ↔ x ∈ b) → a = b
  | [], [], _, _, _ => rfl
  | [], y :: b, _, _, h => by have := (h y).2 (List.mem_cons_self ..); simp at this
  | x :: a, [], _, _, h => by have := (h x).1 (List.mem_cons_self ..); simp at this
  | x :: a, y :: b, ha, hb, h => by
    have ha1 := List.pairwise_cons.1 ha
    have hb1 := List.pairwise_cons.1 hb
    have e : x = y := by
      rcases List.mem_cons.1 ((h x).1 (List.mem_cons_self ..)) with e | e
      · exact e
      · rcases List.mem_cons.1 ((h y).2 (List.mem_cons_self ..)) with e2 | e2
        · exact e2.symm
        · have h1 := hb1.1 x e
          have h2 := ha1.1 y e2
          rw [kLt_asymm h1] at h2
          cases h2
    subst e
    rw [riseT_unique ha1.2 hb1.2]
    intro z
    have hz := h z
    rw [List.mem_cons, List.mem_cons] at hz
    constructor
    · intro hza
      rcases hz.1 (.inr hza) with e | e
      · subst e
        have := ha1.1 z hza
        rw [kLt_irrefl] at this
        cases this
      · exact e
    · intro hzb
      rcases hz.2 (.inr hzb) with e | e
      · subst e
        have := hb1.1 z hzb
        rw [kLt_irrefl] at this
        cases this
      · exact e
theorem addT_len (s : ByteArray) : ∀ r : List ByteArray, (addT r s).length ≤ r.length + 1
  | [] => Nat.le_refl _
  | x :: r => by
    unfold addT
    split
    · have := addT_len s r; simp only [List.length_cons]; omega
    · split <;> simp
theorem fold_len : ∀ (ts r : List ByteArray), (ts.foldl addT r).length ≤ ts.length + r.length
  | [], r => by simp
  | s :: ts, r => by
    have h1 := fold_len ts (addT r s)
    have h2 := addT_len s r
    rw [List.foldl_cons, List.length_cons]
    omega
theorem pool_len (ts : List ByteArray) : (poolF ts).length ≤ ts.length := by have := fold_len ts []; unfold poolF; simpa using this

/-- The number of a text. -/
def idxT (P : List ByteArray) (s : ByteArray) : Nat := P.findIdx fun x => decide (x = s)
theorem idxT_lt {P : List ByteArray} {s : ByteArray} (h : s ∈ P) : idxT P s < P.length := List.findIdx_lt_length_of_exists ⟨s, h, by simp⟩
theorem idxT_get {P : List ByteArray} {s : ByteArray} (h : s ∈ P) : P[idxT P s]? = some s := by
  have hl := idxT_lt h
  have := List.findIdx_getElem (p := fun x => decide (x = s)) (xs := P) (w := hl)
  rw [List.getElem?_eq_getElem hl]
  exact congrArg some (of_decide_eq_true this)
/-- The number of a text, or of none. -/
def optI (P : List ByteArray) (s : ByteArray) : Nat := if noB s then 65535 else idxT P s

def lenC (L : List PT → Nat) : List CT → Nat
  | [] => 0
  | c :: cs => L c.2 + 5 + lenC L cs
def lenP (L : List PT → Nat) (p : PT) : Nat := if p.k = 1 then 3 else if p.k = 2 then 7 else if p.k = 3 then 7 else 9 + 6 * p.cs.length + lenC L p.cs
def lenL (L : List PT → Nat) : List PT → Nat
  | [] => 0
  | p :: l => lenP L p + lenL L l
/-- How many bytes the instructions of parts have. -/
def lenF : Nat → List PT → Nat
  | 0, _ => 0
  | n + 1, l => lenL (lenF n) l
/-- The heads of cases: keys, and where they begin. -/
def headC (P : List ByteArray) (L : List PT → Nat) : Nat → List CT → List UInt8
  | _, [] => []
  | a, c :: cs => w16 (idxT P c.1) ++ w32 a ++ headC P L (a + L c.2 + 5) cs
/-- The cases, each with its jump to the end. -/
def bodyC (E : Nat → List PT → List UInt8) (L : List PT → Nat) (z : Nat) : Nat → List CT → List UInt8
  | _, [] => []
  | a, c :: cs => E a c.2 ++ [7] ++ w32 z ++ bodyC E L z (a + L c.2 + 5) cs
abbrev InP := ByteArray × Int
def inQ (q : InP) (p : PT) : InP := if p.k = 4 then q else (p.nm, p.off)
/-- A part's instructions, from a place on, within a plural. -/
def codP (P : List ByteArray) (E : InP → Nat → List PT → List UInt8) (L : List PT → Nat) (q : InP) (a : Nat) (p : PT) : List UInt8 :=
  if p.k = 1 then 1 :: w16 (idxT P p.tx)
  else if p.k = 2 then 2 :: (w16 (idxT P q.1) ++ w32 q.2.toNat)
  else if p.k = 3 then 3 :: (w16 (idxT P p.nm) ++ w16 (optI P p.ty) ++ w16 (optI P p.st))
  else UInt8.ofNat p.k.toNat :: (w16 (idxT P p.nm) ++ w32 p.off.toNat ++ w16 p.cs.length ++ headC P L (a + 9 + 6 * p.cs.length) p.cs ++ bodyC (E (inQ q p)) L (a + lenP L p) (a + 9 + 6 * p.cs.length) p.cs)
def codL (P : List ByteArray) (E : InP → Nat → List PT → List UInt8) (L : List PT → Nat) (q : InP) : Nat → List PT → List UInt8
  | _, [] => []
  | a, p :: l => codP P E L q a p ++ codL P E L q (a + lenP L p) l
/-- The instructions of parts. -/
def codF (P : List ByteArray) : Nat → InP → Nat → List PT → List UInt8
  | 0, _, _, _ => []
  | n + 1, q, a, l => codL P (codF P n) (lenF n) q a l
/-- The table of texts. -/
def tabT : List ByteArray → List UInt8
  | [] => []
  | s :: P => w16 s.size ++ s.data.toList ++ tabT P
/-- The code of a message. -/
def codeF (n : Nat) (l : List PT) : List UInt8 :=
  w16 (poolF (textF n l)).length ++ tabT (poolF (textF n l)) ++ w32 (lenF n l + 1) ++ codF (poolF (textF n l)) n (⟨#[]⟩, 0) 0 l ++ [0]

section
variable {P : List ByteArray} {E : InP → Nat → List PT → List UInt8} {L : List PT → Nat}
theorem headC_len : ∀ (cs : List CT) (a : Nat), (headC P L a cs).length = 6 * cs.length
  | [], _ => rfl
  | c :: cs, a => by
    simp only [headC, List.length_append, w16_len, w32_len, headC_len cs, List.length_cons]
    omega
theorem bodyC_len {E : Nat → List PT → List UInt8} (hE : ∀ a m, (E a m).length = L m) (z : Nat) : ∀ (cs : List CT) (a : Nat), (bodyC E L z a cs).length = lenC L cs
  | [], _ => rfl
  | c :: cs, a => by
    simp only [bodyC, lenC, List.length_append, w32_len, bodyC_len hE z cs, hE, List.length_cons, List.length_nil]
theorem codP_len (hE : ∀ q a m, (E q a m).length = L m) (q : InP) (a : Nat) (p : PT) : (codP P E L q a p).length = lenP L p := by
  unfold codP lenP
  split
  · rfl
  · split
    · simp [w16_len, w32_len]
    · split
      · simp [w16_len]
      · simp only [List.length_cons, List.length_append, w16_len, w32_len, headC_len, bodyC_len (hE (inQ q p))]
        omega
theorem codL_len (hE : ∀ q a m, (E q a m).length = L m) (q : InP) : ∀ (l : List PT) (a : Nat), (codL P E L q a l).length = lenL L l
  | [], _ => rfl
  | p :: l, a => by simp only [codL, lenL, List.length_append, codP_len hE, codL_len hE q l]
end
theorem codF_len (P : List ByteArray) : ∀ (n : Nat) (q : InP) (a : Nat) (l : List PT), (codF P n q a l).length = lenF n l
  | 0, _, _, _ => rfl
  | n + 1, q, a, l => codL_len (codF_len P n) q l a
theorem textL_append (T : List PT → List ByteArray) : ∀ (a b : List PT), textL T (a ++ b) = textL T a ++ textL T b
  | [], _ => rfl
  | p :: a, b => by simp only [List.cons_append, textL, textL_append T a b, List.append_assoc]
theorem caseT_append (T : List PT → List ByteArray) : ∀ (a b : List CT), caseT T (a ++ b) = caseT T a ++ caseT T b
  | [], _ => rfl
  | c :: a, b => by simp only [List.cons_append, caseT, caseT_append T a b, List.append_assoc]
section
variable {T K : List PT → Nat} {U : List PT → List ByteArray}
theorem caseT_bulk (h : ∀ m, (U m).length ≤ K m) : ∀ cs : List CT, (caseT U cs).length ≤ bulkC K cs
  | [] => Nat.le_refl _
  | c :: cs => by
    have := caseT_bulk h cs
    have := h c.2
    simp only [caseT, bulkC, List.length_cons, List.length_append]
    omega
theorem optT_len (t : ByteArray) : (optT t).length ≤ t.size := by
  unfold optT noB
  by_cases h : t.size = 0
  · rw [decide_eq_true h]; exact Nat.zero_le _
  · rw [decide_eq_false h]
    show 1 ≤ t.size
    omega
theorem textL_bulk (h : ∀ m, (U m).length ≤ K m) : ∀ l : List PT, (textL U l).length ≤ bulkL K l
  | [] => Nat.le_refl _
  | p :: l => by
    have h1 := textL_bulk h l
    have h2 := caseT_bulk h p.cs
    have h3 := optT_len p.ty
    have h4 := optT_len p.st
    have : (partT U p).length ≤ 1 + p.tx.size + p.nm.size + p.ty.size + p.st.size + bulkC K p.cs := by
      unfold partT
      split
      · simp; omega
      · split
        · simp
        · split
          · simp only [List.length_cons, List.length_append]; omega
          · simp only [List.length_cons]; omega
    simp only [textL, bulkL, List.length_append]
    omega
end
theorem caseT_key {U : List PT → List ByteArray} {c : CT} : ∀ {cs : List CT}, c ∈ cs → c.1 ∈ caseT U cs
  | [], h => by simp at h
  | d :: cs, h => by
    unfold caseT
    rcases List.mem_cons.1 h with rfl | h
    · exact List.mem_cons_self ..
    · exact List.mem_cons_of_mem _ (List.mem_append_right _ (caseT_key h))
/-- There are no more texts than there is bulk. -/
theorem textF_bulk : ∀ (n : Nat) (l : List PT), (textF n l).length ≤ bulkF n l
  | 0, _ => Nat.le_refl _
  | n + 1, l => textL_bulk (textF_bulk n) l
end Go.Proofs.YtmfoiceofhcicaaGreatDoor
