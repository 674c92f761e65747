/- Plain: the reader of messages. No walk. -/
import Derived.Test.YtmfoiceofhcicaaGreatDoorMT
import Derived.Test.YtmfoiceofhcicaaGreatDoorUtf
import Derived.Lib.AtoiAll
import Derived.Lib.ItoaNum
import Derived.Lib.Strings
namespace Go.Proofs.YtmfoiceofhcicaaGreatDoor
open Go.RowKit

/-- The byte at a place; -1: the text has ended. -/
def byt (s : ByteArray) (p : Nat) : Int := if h : p < s.size then (s[p].toNat : Int) else -1
theorem byt_in {s : ByteArray} {p : Nat} (h : p < s.size) : byt s p = (s[p].toNat : Int) := by unfold byt; rw [dif_pos h]
theorem byt_out {s : ByteArray} {p : Nat} (h : s.size ≤ p) : byt s p = -1 := by unfold byt; rw [dif_neg (by omega)]
theorem byt_lt {s : ByteArray} {p : Nat} (h : 0 ≤ byt s p) : p < s.size := by
  rcases Nat.lt_or_ge p s.size with h1 | h1
  · exact h1
  · rw [byt_out h1] at h; omega
theorem byt_ge (s : ByteArray) (p : Nat) : -1 ≤ byt s p := by
  rcases Nat.lt_or_ge p s.size with h1 | h1
  · rw [byt_in h1]; omega
  · rw [byt_out h1]; omega
theorem byt_le (s : ByteArray) (p : Nat) : byt s p ≤ 255 := by
  rcases Nat.lt_or_ge p s.size with h1 | h1
  · rw [byt_in h1]; have := s[p].toNat_lt; omega
  · rw [byt_out h1]; omega
/-- The first place from p on that is not of a kind. -/
def spanF (c : Nat → Bool) : Nat → Nat → Nat
  | 0, p => p
  | f + 1, p => if c p then spanF c f (p + 1) else p
theorem spanF_ge (c : Nat → Bool) : ∀ f p, p ≤ spanF c f p
  | 0, _ => Nat.le_refl _
  | f + 1, p => by
    unfold spanF; split
    · have := spanF_ge c f (p + 1); omega
    · exact Nat.le_refl _
theorem spanF_le (c : Nat → Bool) : ∀ f p, spanF c f p ≤ p + f
  | 0, _ => Nat.le_refl _
  | f + 1, p => by
    unfold spanF; split
    · have := spanF_le c f (p + 1); omega
    · omega
def blI (x : Int) : Bool := x == 9 || x == 10 || x == 13 || x == 32
def startI (x : Int) : Bool := decide (97 ≤ x ∧ x ≤ 122) || decide (65 ≤ x ∧ x ≤ 90) || x == 95
def digI (x : Int) : Bool := decide (48 ≤ x) && decide (x ≤ 57)
def nameI (x : Int) : Bool := startI x || digI x || x == 45 || x == 46
def styI (x : Int) : Bool := decide (0 ≤ x) && !(x == 123) && !(x == 125) && !(x == 39)
/-- Behind blanks. -/
def skip (s : ByteArray) (p : Nat) : Nat := spanF (fun i => blI (byt s i)) (s.size - p) p
def nameE (s : ByteArray) (q : Nat) : Nat := spanF (fun i => nameI (byt s i)) (s.size - q) q
def digE (s : ByteArray) (q : Nat) : Nat := spanF (fun i => digI (byt s i)) (s.size - q) q
def styE (s : ByteArray) (q : Nat) : Nat := spanF (fun i => styI (byt s i)) (s.size - q) q
theorem skip_ge (s : ByteArray) (p : Nat) : p ≤ skip s p := spanF_ge _ _ _
theorem skip_le (s : ByteArray) (p : Nat) (h : p ≤ s.size) : skip s p ≤ s.size := by have := spanF_le (fun i => blI (byt s i)) (s.size - p) p; unfold skip; omega
theorem nameE_ge (s : ByteArray) (p : Nat) : p ≤ nameE s p := spanF_ge _ _ _
theorem nameE_le (s : ByteArray) (p : Nat) (h : p ≤ s.size) : nameE s p ≤ s.size := by have := spanF_le (fun i => nameI (byt s i)) (s.size - p) p; unfold nameE; omega
theorem digE_ge (s : ByteArray) (p : Nat) : p ≤ digE s p := spanF_ge _ _ _
theorem digE_le (s : ByteArray) (p : Nat) (h : p ≤ s.size) : digE s p ≤ s.size := by have := spanF_le (fun i => digI (byt s i)) (s.size - p) p; unfold digE; omega
theorem styE_ge (s : ByteArray) (p : Nat) : p ≤ styE s p := spanF_ge _ _ _
theorem styE_le (s : ByteArray) (p : Nat) (h : p ≤ s.size) : styE s p ≤ s.size := by have := spanF_le (fun i => styI (byt s i)) (s.size - p) p; unfold styE; omega

/-- What reading comes to: steps ran out, an error and its place, or what was read and the place behind. -/
inductive RR (α : Type) where
  | out
  | bad (e : Int) (p : Nat)
  | ok (a : α) (p : Nat)
/-- The same, with how many parts were read. -/
inductive RM (α : Type) where
  | out
  | bad (e : Int) (p : Nat)
  | ok (a : α) (p n : Nat)
def RR.then {α β : Type} (r : RR α) (k : α → Nat → RR β) : RR β :=
  match r with
  | .out => .out
  | .bad e p => .bad e p
  | .ok a p => k a p
def RR.thenM {α β : Type} (r : RR α) (k : α → Nat → RM β) : RM β :=
  match r with
  | .out => .out
  | .bad e p => .bad e p
  | .ok a p => k a p
def RM.then {α β : Type} (r : RM α) (k : α → Nat → Nat → RM β) : RM β :=
  match r with
  | .out => .out
  | .bad e p => .bad e p
  | .ok a p n => k a p n

def signS (s : ByteArray) (b : Int) (p : Nat) : RR Unit := if byt s (skip s p) = b then .ok () (skip s p + 1) else .bad 290 (skip s p)
def nameS (s : ByteArray) (p : Nat) : RR ByteArray :=
  if startI (byt s (skip s p)) then
    if 64 < nameE s (skip s p + 1) - skip s p then .bad 290 (skip s p) else .ok (s.extract (skip s p) (nameE s (skip s p + 1))) (nameE s (skip s p + 1))
  else .bad 290 (skip s p)
/-- The number of digits; none: they are none. -/
def numV (t : ByteArray) : Option Int :=
  match Lib.atoiAll t.data.toList with
  | .ok v => if t.size ≤ 9 ∧ Lib.itoa v = t.data.toList ∧ 0 ≤ v then some v else none
  | _ => none
def numS (s : ByteArray) (p : Nat) : RR Int :=
  match numV (s.extract p (digE s p)) with
  | some v => .ok v (digE s p)
  | none => .bad 290 p
def quotF (s : ByteArray) (o : Nat) : Nat → Nat → List UInt8 → RR (List UInt8)
  | 0, _, _ => .out
  | f + 1, p, acc =>
    if h : p < s.size then
      if byt s p = 39 then if byt s (p + 1) = 39 then quotF s o f (p + 2) (acc ++ [39]) else .ok acc (p + 1)
      else quotF s o f (p + 1) (acc ++ [s[p]])
    else .bad 290 o
/-- A quoted text that begins at a place. -/
def quotS (s : ByteArray) (p : Nat) : RR (List UInt8) := quotF s p (s.size + 1 - (p + 1)) (p + 1) []
def trimL (l : List UInt8) : List UInt8 := l.dropWhile fun b => blI b.toNat
def trimR (l : List UInt8) : List UInt8 := (trimL l.reverse).reverse
def trimB (t : ByteArray) : ByteArray := ⟨(trimL (trimR t.data.toList)).toArray⟩
def styleS (s : ByteArray) (p : Nat) : RR ByteArray :=
  if (trimB (s.extract (skip s p) (styE s (skip s p)))).size = 0 then .bad 290 (styE s (skip s p))
  else if 64 < (trimB (s.extract (skip s p) (styE s (skip s p)))).size then .bad 290 (skip s p)
  else .ok (trimB (s.extract (skip s p) (styE s (skip s p)))) (styE s (skip s p))
/-- Is a word among words? -/
def memW (ws : List ByteArray) (x : ByteArray) : Bool := ws.any fun y => decide (y = x)
theorem memW_iff (ws : List ByteArray) (x : ByteArray) : memW ws x = true ↔ x ∈ ws := by
  unfold memW
  rw [List.any_eq_true]
  constructor
  · rintro ⟨y, hy, he⟩
    rw [decide_eq_true_iff] at he
    exact he ▸ hy
  · exact fun h => ⟨x, h, by simp⟩
def catsW : List ByteArray := [⟨#[122, 101, 114, 111]⟩, ⟨#[111, 110, 101]⟩, ⟨#[116, 119, 111]⟩, ⟨#[102, 101, 119]⟩, ⟨#[109, 97, 110, 121]⟩, ⟨#[111, 116, 104, 101, 114]⟩]
def typesW : List ByteArray := [⟨#[110, 117, 109, 98, 101, 114]⟩, ⟨#[100, 97, 116, 101]⟩, ⟨#[116, 105, 109, 101]⟩, ⟨#[108, 105, 115, 116]⟩, ⟨#[117, 110, 105, 116]⟩, ⟨#[114, 101, 108, 97, 116, 105, 118, 101]⟩, ⟨#[112, 108, 97, 110, 101]⟩]
def otherW : ByteArray := ⟨#[111, 116, 104, 101, 114]⟩
def eqKey (v : Int) : ByteArray := ⟨(61 :: Lib.itoa v).toArray⟩
def keyS (s : ByteArray) (kind : Int) (p : Nat) : RR ByteArray :=
  if kind ≠ 4 ∧ byt s p = 61 then (numS s (p + 1)).then fun v q => .ok (eqKey v) q
  else (nameS s p).then fun t q => if kind ≠ 4 ∧ memW catsW t = false then .bad 290 p else .ok t q
def textP (t : ByteArray) : PT := ⟨1, t, ⟨#[]⟩, ⟨#[]⟩, ⟨#[]⟩, 0, []⟩
def hashP : PT := ⟨2, ⟨#[]⟩, ⟨#[]⟩, ⟨#[]⟩, ⟨#[]⟩, 0, []⟩
/-- A text more: of the last part, if that is a text. -/
def putS (l : List PT) (t : ByteArray) (p n : Nat) : RM (List PT) :=
  match l.getLast? with
  | some a => if a.k = 1 then .ok (l.dropLast ++ [{ a with tx := a.tx ++ t }]) p n else if n = 1024 then .bad 3 p else .ok (l ++ [textP t]) p (n + 1)
  | none => if n = 1024 then .bad 3 p else .ok (l ++ [textP t]) p (n + 1)
abbrev CT := ByteArray × List PT
/-- The cases of a choice; M reads a message. -/
def caseF (s : ByteArray) (M : Nat → Nat → RM (List PT)) (kind : Int) : Nat → List CT → Nat → Nat → RM (List CT)
  | 0, _, _, _ => .out
  | f + 1, cs, p, n =>
    (keyS s kind p).thenM fun key p1 =>
      if memW (cs.map Prod.fst) key then .bad 292 p else
      (signS s 123 p1).thenM fun _ p2 => (M p2 n).then fun l p3 n3 =>
        if p3 = s.size then .bad 290 p3
        else if byt s (skip s (p3 + 1)) = 125 then .ok (cs ++ [(key, l)]) (skip s (p3 + 1)) n3
        else caseF s M kind f (cs ++ [(key, l)]) (skip s (p3 + 1)) n3
def offW : List UInt8 := [111, 102, 102, 115, 101, 116, 58]
/-- The offset, and the place behind. -/
def offS (s : ByteArray) (kind : Int) (q : Nat) : RR Int :=
  if kind ≠ 4 ∧ Lib.hasPrefix (s.extract q s.size).data.toList offW then (numS s (skip s (q + 7))).then fun v e => .ok v (skip s e) else .ok 0 q
def choiS (s : ByteArray) (M : Nat → Nat → RM (List PT)) (f : Nat) (kind : Int) (o p n nest : Nat) : RM (Int × List CT) :=
  if nest = 8 then .bad 3 o else
  (offS s kind (skip s p)).thenM fun off q => (caseF s M kind f [] q n).then fun cs q2 n2 =>
    if memW (cs.map Prod.fst) otherW then .ok (off, cs) q2 n2 else .bad 291 q2
def selectW : ByteArray := ⟨#[115, 101, 108, 101, 99, 116]⟩
def pluralW : ByteArray := ⟨#[112, 108, 117, 114, 97, 108]⟩
def ordinalW : ByteArray := ⟨#[115, 101, 108, 101, 99, 116, 111, 114, 100, 105, 110, 97, 108]⟩
/-- The kind that a word says: of a choice; 3: of an argument; 0: none. -/
def wordK (w : ByteArray) : Int := if w = selectW then 4 else if w = pluralW then 5 else if w = ordinalW then 6 else if memW typesW w then 3 else 0
/-- What stands between { at p and }. M: reads a message, # being a number or not. -/
def argS (s : ByteArray) (M : Bool → Nat → Nat → RM (List PT)) (f : Nat) (p n nest : Nat) : RM PT :=
  (nameS s (p + 1)).thenM fun nm p1 =>
    if byt s (skip s p1) = 125 then .ok ⟨3, ⟨#[]⟩, nm, ⟨#[]⟩, ⟨#[]⟩, 0, []⟩ (skip s p1 + 1) n else
    (signS s 44 (skip s p1)).thenM fun _ p2 => (nameS s (skip s p2)).thenM fun w p3 =>
      if wordK w = 0 then .bad 290 (skip s p2)
      else if wordK w = 3 then
        if byt s (skip s p3) = 44 then (styleS s (skip s p3 + 1)).thenM fun st p4 => (signS s 125 p4).thenM fun _ p5 => .ok ⟨3, ⟨#[]⟩, nm, w, st, 0, []⟩ p5 n
        else (signS s 125 (skip s p3)).thenM fun _ p5 => .ok ⟨3, ⟨#[]⟩, nm, w, ⟨#[]⟩, 0, []⟩ p5 n
      else (signS s 44 p3).thenM fun _ p4 => (choiS s (M (decide (wordK w ≠ 4))) f (wordK w) p p4 n nest).then fun x p5 n5 =>
        (signS s 125 p5).thenM fun _ p6 => .ok ⟨wordK w, ⟨#[]⟩, nm, ⟨#[]⟩, ⟨#[]⟩, x.1, x.2⟩ p6 n5
def quotB (s : ByteArray) (h : Bool) (p : Nat) : Bool := byt s (p + 1) == 123 || byt s (p + 1) == 125 || (byt s (p + 1) == 35 && h)
/-- A message, up to the text's end or a } that is not its own. -/
def msgF (s : ByteArray) : Nat → Nat → Bool → List PT → Nat → Nat → RM (List PT)
  | 0, _, _, _, _, _ => .out
  | f + 1, nest, h, l, p, n =>
    if p = s.size ∨ byt s p = 125 then .ok l p n
    else if byt s p = 123 then
      if n = 1024 then .bad 3 p else (argS s (fun h' => msgF s f (nest + 1) h' []) f p (n + 1) nest).then fun a q n2 => msgF s f nest h (l ++ [a]) q n2
    else if byt s p = 35 ∧ h = true then
      if n = 1024 then .bad 3 p else msgF s f nest h (l ++ [hashP]) (p + 1) (n + 1)
    else if byt s p = 39 ∧ byt s (p + 1) = 39 then (putS l ⟨#[39]⟩ p n).then fun l2 _ n2 => msgF s f nest h l2 (p + 2) n2
    else if byt s p = 39 ∧ quotB s h p = true then (quotS s p).thenM fun t q => (putS l ⟨t.toArray⟩ p n).then fun l2 _ n2 => msgF s f nest h l2 q n2
    else (putS l (s.extract p (p + 1)) p n).then fun l2 _ n2 => msgF s f nest h l2 (p + 1) n2
/-- A text, read as a message. -/
def parseM (s : ByteArray) : RM (List PT) :=
  if 4096 < s.size then .bad 3 0
  else if 0 ≤ brk s then .bad 6 (brk s).toNat
  else (msgF s (s.size + 1) 0 false [] 0 0).then fun l p n => if p < s.size then .bad 290 p else .ok l p n
end Go.Proofs.YtmfoiceofhcicaaGreatDoor
