/- Plain: code read back: its texts, its instructions; the parts that these say. No walk. -/
import Derived.Test.YtmfoiceofhcicaaGreatDoorKA
namespace Go.Proofs.YtmfoiceofhcicaaGreatDoor
open Go.RowKit

/-- Where a reader of bytes stands; has it failed? -/
structure Rd where
  p : Nat
  e : Bool
def takeR (b : List UInt8) (n : Nat) (r : Rd) : List UInt8 × Rd :=
  if r.e then ([], r) else if b.length - r.p < n then ([], ⟨r.p, true⟩) else ((b.drop r.p).take n, ⟨r.p + n, false⟩)
def leN : List UInt8 → Nat
  | [] => 0
  | c :: l => c.toNat + 256 * leN l
def numR (b : List UInt8) (n : Nat) (r : Rd) : Nat × Rd := (leN (takeR b n r).1, (takeR b n r).2)
/-- The table of texts, read. -/
def poolR (b : List UInt8) : Nat → List ByteArray → Rd → List ByteArray × Rd
  | 0, acc, r => (acc, r)
  | n + 1, acc, r => if r.e then (acc, r) else
    poolR b n (acc ++ [⟨(takeR b (numR b 2 r).1 (numR b 2 r).2).1.toArray⟩]) (takeR b (numR b 2 r).1 (numR b 2 r).2).2
/-- A text by its number: the text, whether that may be, and the reader behind. -/
def txR (b : List UInt8) (P : List ByteArray) (may : Bool) (r : Rd) : ByteArray × Bool × Rd :=
  match P[(numR b 2 r).1]? with
  | some t => (t, true, (numR b 2 r).2)
  | none => (⟨#[]⟩, may && (numR b 2 r).1 == 65535, (numR b 2 r).2)
/-- An instruction. -/
structure OT where
  at_ : Nat
  nx : Nat
  k : Nat
  tx : ByteArray
  nm : ByteArray
  ty : ByteArray
  st : ByteArray
  off : Nat
  ks : List ByteArray
  ts : List Nat
/-- Keys and places of a choice, read. -/
def keyR (b : List UInt8) (P : List ByteArray) : Nat → List ByteArray → List Nat → Bool → Rd → List ByteArray × List Nat × Bool × Rd
  | 0, ks, ts, g, r => (ks, ts, g, r)
  | n + 1, ks, ts, g, r => if r.e then (ks, ts, g, r) else
    keyR b P n (ks ++ [(txR b P false r).1]) (ts ++ [(numR b 4 (txR b P false r).2.2).1]) (g && (txR b P false r).2.1) (numR b 4 (txR b P false r).2.2).2
/-- An instruction of a kind, read from behind its first byte; a: where it begins; z: where all begin. -/
def opR (b : List UInt8) (P : List ByteArray) (z a k : Nat) (r : Rd) : OT × Bool × Rd :=
  if k = 0 then (⟨a, r.p - z, 0, ⟨#[]⟩, ⟨#[]⟩, ⟨#[]⟩, ⟨#[]⟩, 0, [], []⟩, true, r)
  else if k = 1 then
    let t := txR b P false r
    (⟨a, t.2.2.p - z, 1, t.1, ⟨#[]⟩, ⟨#[]⟩, ⟨#[]⟩, 0, [], []⟩, t.2.1, t.2.2)
  else if k = 2 then
    let t := txR b P false r
    let n := numR b 4 t.2.2
    (⟨a, n.2.p - z, 2, ⟨#[]⟩, t.1, ⟨#[]⟩, ⟨#[]⟩, n.1, [], []⟩, t.2.1, n.2)
  else if k = 3 then
    let t := txR b P false r
    let u := txR b P true t.2.2
    let v := txR b P true u.2.2
    (⟨a, v.2.2.p - z, 3, ⟨#[]⟩, t.1, u.1, v.1, 0, [], []⟩, t.2.1 && u.2.1 && v.2.1, v.2.2)
  else if k = 4 ∨ k = 5 ∨ k = 6 then
    let t := txR b P false r
    let n := numR b 4 t.2.2
    let c := numR b 2 n.2
    let y := keyR b P c.1 [] [] t.2.1 c.2
    (⟨a, y.2.2.2.p - z, k, ⟨#[]⟩, t.1, ⟨#[]⟩, ⟨#[]⟩, n.1, y.1, y.2.1⟩, y.2.2.1, y.2.2.2)
  else if k = 7 then
    let n := numR b 4 r
    (⟨a, n.2.p - z, 7, ⟨#[]⟩, ⟨#[]⟩, ⟨#[]⟩, ⟨#[]⟩, 0, [], [n.1]⟩, true, n.2)
  else (⟨a, r.p - z, k, ⟨#[]⟩, ⟨#[]⟩, ⟨#[]⟩, ⟨#[]⟩, 0, [], []⟩, false, r)
/-- The instructions, read. -/
def opsR (b : List UInt8) (P : List ByteArray) (z : Nat) : Nat → List OT → Nat → Option (List OT)
  | 0, _, _ => none
  | f + 1, acc, p =>
    match b[p]? with
    | none => some acc
    | some c =>
      if (opR b P z (p - z) c.toNat ⟨p + 1, false⟩).2.1 && !(opR b P z (p - z) c.toNat ⟨p + 1, false⟩).2.2.e then
        opsR b P z f (acc ++ [(opR b P z (p - z) c.toNat ⟨p + 1, false⟩).1]) (opR b P z (p - z) c.toNat ⟨p + 1, false⟩).2.2.p
      else none
/-- Texts and instructions of code. -/
def listR (b : List UInt8) : Option (List ByteArray × List OT) :=
  let n := numR b 2 ⟨0, false⟩
  let y := poolR b n.1 [] n.2
  let s := numR b 4 y.2
  if s.2.e = true ∨ s.1 ≠ b.length - s.2.p then none else
  match opsR b y.1 s.2.p (b.length + 1 - s.2.p) [] s.2.p with
  | none => none
  | some o => if o = [] then none else some (y.1, o)
/-- The cases of a choice. M: lifts the parts from an instruction on. -/
def casL (ops : List OT) (M : Nat → Option (List PT × Nat)) : List ByteArray → Nat → List CT → Option (List CT × Nat)
  | [], i, acc => some (acc, i)
  | k :: ks, i, acc =>
    match M (i + 1) with
    | none => none
    | some (l, e) => if (ops[e]?.map OT.k) = some 7 then casL ops M ks e (acc ++ [(k, l)]) else none
/-- The parts that instructions say, from one on. -/
def liftF (ops : List OT) : Nat → Nat → Nat → List PT → Option (List PT × Nat)
  | 0, _, _, _ => none
  | f + 1, nest, i, acc =>
    match ops[i]? with
    | none => none
    | some o =>
      if o.k = 1 then liftF ops f nest (i + 1) (acc ++ [textP o.tx])
      else if o.k = 2 then liftF ops f nest (i + 1) (acc ++ [hashP])
      else if o.k = 3 then liftF ops f nest (i + 1) (acc ++ [⟨3, ⟨#[]⟩, o.nm, o.ty, o.st, 0, []⟩])
      else if o.k = 7 ∨ o.k = 0 then some (acc, i)
      else if nest = 0 then none else
      match casL ops (fun j => liftF ops f (nest - 1) j []) o.ks i [] with
      | none => none
      | some (cs, e) => liftF ops f nest (e + 1) (acc ++ [⟨o.k, ⟨#[]⟩, o.nm, ⟨#[]⟩, ⟨#[]⟩, o.off, cs⟩])

/-! ### the instructions of parts -/
def opE : OT := ⟨0, 0, 0, ⟨#[]⟩, ⟨#[]⟩, ⟨#[]⟩, ⟨#[]⟩, 0, [], []⟩
def startC (L : List PT → Nat) : Nat → List CT → List Nat
  | _, [] => []
  | a, c :: cs => a :: startC L (a + L c.2 + 5) cs
def bodyO (O : Nat → List PT → List OT) (L : List PT → Nat) (z : Nat) : Nat → List CT → List OT
  | _, [] => []
  | a, c :: cs => O a c.2 ++ { opE with at_ := a + L c.2, nx := a + L c.2 + 5, k := 7, ts := [z] } :: bodyO O L z (a + L c.2 + 5) cs
def opP (O : InP → Nat → List PT → List OT) (L : List PT → Nat) (q : InP) (a : Nat) (p : PT) : List OT :=
  if p.k = 1 then [{ opE with at_ := a, nx := a + 3, k := 1, tx := p.tx }]
  else if p.k = 2 then [{ opE with at_ := a, nx := a + 7, k := 2, nm := q.1, off := q.2.toNat }]
  else if p.k = 3 then [{ opE with at_ := a, nx := a + 7, k := 3, nm := p.nm, ty := p.ty, st := p.st }]
  else { opE with at_ := a, nx := a + 9 + 6 * p.cs.length, k := p.k.toNat, nm := p.nm, off := p.off.toNat, ks := p.cs.map Prod.fst, ts := startC L (a + 9 + 6 * p.cs.length) p.cs } :: bodyO (O (inQ q p)) L (a + lenP L p) (a + 9 + 6 * p.cs.length) p.cs
def opL (O : InP → Nat → List PT → List OT) (L : List PT → Nat) (q : InP) : Nat → List PT → List OT
  | _, [] => []
  | a, p :: l => opP O L q a p ++ opL O L q (a + lenP L p) l
/-- The instructions of parts. -/
def opF : Nat → InP → Nat → List PT → List OT
  | 0, _, _, _ => []
  | n + 1, q, a, l => opL (opF n) (lenF n) q a l

/-! ### reading what was written -/
def AtL (b : List UInt8) (p : Nat) (W : List UInt8) : Prop := b.drop p = W
section
variable {b W X : List UInt8} {p n : Nat}
theorem AtL.move (h : AtL b p (X ++ W)) : AtL b (p + X.length) W := by
  unfold AtL at *
  rw [← List.drop_drop, h, List.drop_left' rfl]
theorem AtL.take (h : AtL b p (X ++ W)) : takeR b X.length ⟨p, false⟩ = (X, ⟨p + X.length, false⟩) := by
  have hl : b.length - p = X.length + W.length := by
    have := congrArg List.length h
    rw [List.length_drop, List.length_append] at this
    exact this
  unfold takeR
  rw [if_neg (by simp), if_neg (by show ¬ b.length - p < _; omega)]
  show ((b.drop p).take X.length, _) = _
  rw [show b.drop p = X ++ W from h, List.take_left' rfl]
theorem leN_16 (h : n < 65536) : leN (w16 n) = n := by
  simp only [w16, leN, UInt8.toNat_ofNat']
  omega
theorem leN_32 (h : n < 4294967296) : leN (w32 n) = n := by
  simp only [w32, leN, UInt8.toNat_ofNat']
  omega
theorem AtL.n16 (h : AtL b p (w16 n ++ W)) (hn : n < 65536) : numR b 2 ⟨p, false⟩ = (n, ⟨p + 2, false⟩) := by
  have := h.take
  rw [w16_len] at this
  unfold numR
  rw [this, leN_16 hn]
theorem AtL.n32 (h : AtL b p (w32 n ++ W)) (hn : n < 4294967296) : numR b 4 ⟨p, false⟩ = (n, ⟨p + 4, false⟩) := by
  have := h.take
  rw [w32_len] at this
  unfold numR
  rw [this, leN_32 hn]
theorem AtL.m16 (h : AtL b p (w16 n ++ W)) : AtL b (p + 2) W := h.move
theorem AtL.m32 (h : AtL b p (w32 n ++ W)) : AtL b (p + 4) W := h.move
theorem AtL.byte {c : UInt8} (h : AtL b p (c :: W)) : b[p]? = some c := by
  have := congrArg (fun l : List UInt8 => l[0]?) (show b.drop p = c :: W from h)
  simpa [List.getElem?_drop] using this
theorem AtL.m1 {c : UInt8} (h : AtL b p (c :: W)) : AtL b (p + 1) W := AtL.move (X := [c]) h
theorem AtL.none (h : AtL b p []) : b[p]? = none := by
  rw [List.getElem?_eq_none_iff]
  exact List.drop_eq_nil_iff.1 h
theorem poolR_at : ∀ (P acc : List ByteArray) (p : Nat), (∀ s ∈ P, s.size < 65536) → AtL b p (tabT P ++ W) → poolR b P.length acc ⟨p, false⟩ = (acc ++ P, ⟨p + (tabT P).length, false⟩)
  | [], acc, p, _, _ => by simp [poolR, tabT]
  | s :: P, acc, p, hs, h => by
    have hz := hs s (List.mem_cons_self ..)
    have hl : s.data.toList.length = s.size := by simp
    simp only [tabT, List.append_assoc] at h
    have h1 := h.n16 hz
    have h2 := h.m16
    have h3 := h2.take
    rw [hl] at h3
    have h4 := h2.move
    rw [hl] at h4
    have ih := poolR_at P (acc ++ [s]) _ (fun x hx => hs x (List.mem_cons_of_mem _ hx)) h4
    rw [List.length_cons]
    unfold poolR
    rw [if_neg (by simp), h1]
    show poolR b P.length (acc ++ [⟨(takeR b s.size ⟨p + 2, false⟩).1.toArray⟩]) (takeR b s.size ⟨p + 2, false⟩).2 = _
    rw [h3]
    show poolR b P.length (acc ++ [⟨s.data.toList.toArray⟩]) ⟨p + 2 + s.size, false⟩ = _
    rw [Array.toArray_toList]
    rw [ih]
    simp only [tabT, List.append_assoc, List.cons_append, List.nil_append, List.length_append, w16_len, hl]
    rw [show p + (2 + (s.size + (tabT P).length)) = p + 2 + s.size + (tabT P).length by omega]
theorem txR_at {P : List ByteArray} {s : ByteArray} (m : Bool) (h : AtL b p (w16 (idxT P s) ++ W)) (hs : s ∈ P) (hP : P.length < 65536) : txR b P m ⟨p, false⟩ = (s, true, ⟨p + 2, false⟩) := by
  have hi := idxT_lt hs
  unfold txR
  rw [h.n16 (by omega)]
  show (match P[idxT P s]? with | some t => _ | none => _) = _
  rw [idxT_get hs]
theorem noB_nil {s : ByteArray} (h : noB s = true) : s = ⟨#[]⟩ := by
  have : s.size = 0 := of_decide_eq_true h
  apply ByteArray.ext
  exact Array.eq_empty_of_size_eq_zero this
theorem txR_opt {P : List ByteArray} {s : ByteArray} (h : AtL b p (w16 (optI P s) ++ W)) (hs : noB s = false → s ∈ P) (hP : P.length < 65536) : txR b P true ⟨p, false⟩ = (s, true, ⟨p + 2, false⟩) := by
  cases hn : noB s with
  | false =>
    rw [optI, hn, if_neg (by decide)] at h
    exact txR_at true h (hs hn) hP
  | true =>
    rw [optI, hn, if_pos rfl] at h
    unfold txR
    rw [h.n16 (by decide)]
    show (match P[65535]? with | some t => _ | none => _) = _
    rw [List.getElem?_eq_none (by omega), noB_nil hn]
    rfl
theorem keyR_at {P : List ByteArray} {L : List PT → Nat} (hP : P.length < 65536) : ∀ (cs : List CT) (ks : List ByteArray) (ts : List Nat) (a p : Nat), (∀ c ∈ cs, c.1 ∈ P) → a + lenC L cs < 4294967296 → AtL b p (headC P L a cs ++ W) →
    keyR b P cs.length ks ts true ⟨p, false⟩ = (ks ++ cs.map Prod.fst, ts ++ startC L a cs, true, ⟨p + 6 * cs.length, false⟩)
  | [], ks, ts, a, p, _, _, _ => by simp [keyR, startC]
  | c :: cs, ks, ts, a, p, hc, ha, h => by
    simp only [headC, List.append_assoc] at h
    simp only [lenC] at ha
    have h1 := txR_at false h (hc c (List.mem_cons_self ..)) hP
    have h2 := h.m16
    have h3 := h2.n32 (by omega)
    have h4 := h2.m32
    have ih := keyR_at hP cs (ks ++ [c.1]) (ts ++ [a]) _ _ (fun x hx => hc x (List.mem_cons_of_mem _ hx)) (by omega) h4
    rw [List.length_cons]
    unfold keyR
    rw [if_neg (by simp), h1]
    show keyR b P cs.length (ks ++ [c.1]) (ts ++ [(numR b 4 ⟨p + 2, false⟩).1]) true (numR b 4 ⟨p + 2, false⟩).2 = _
    rw [h3, ih]
    simp only [List.map_cons, List.append_assoc, List.cons_append, List.nil_append, startC]
    rw [show p + 2 + 4 + 6 * cs.length = p + 6 * (cs.length + 1) by omega]
end
end Go.Proofs.YtmfoiceofhcicaaGreatDoor
