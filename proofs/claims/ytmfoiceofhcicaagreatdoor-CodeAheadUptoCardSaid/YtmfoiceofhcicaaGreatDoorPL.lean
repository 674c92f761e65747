/- Plain: the printer of messages: which parts may be, their one form, how many and how deep. No walk. -/
import Derived.Test.YtmfoiceofhcicaaGreatDoorMU
namespace Go.Proofs.YtmfoiceofhcicaaGreatDoor
open Go.RowKit

def noB (t : ByteArray) : Bool := decide (t.size = 0)
def isNameB (s : ByteArray) : Bool := allB nameI s && startI (byt s 0) && decide (s.size ≤ 64)
def isKeyB (k : Int) (s : ByteArray) : Bool :=
  if k = 4 then isNameB s else if Lib.hasPrefix s.data.toList [61] then (numV (s.extract 1 s.size)).isSome else memW catsW s
def quoB (b : UInt8) : Bool := b == 123 || b == 125 || b == 39
def isStyleB (s : ByteArray) : Bool := !noB s && decide (s.size ≤ 64) && decide (trimB s = s) && decide (brk s < 0) && !(s.data.toList.any quoB)
/-- Has a part nothing but what its kind has? -/
def plainB (p : PT) (h : Bool) : Bool :=
  if p.k = 1 then !noB p.tx && decide (brk p.tx < 0) && decide (p.cs.length = 0) && noB p.nm && noB p.ty && noB p.st && decide (p.off = 0)
  else if p.k = 2 then h && decide (p.cs.length = 0) && noB p.tx && noB p.nm && noB p.ty && noB p.st && decide (p.off = 0)
  else if p.k = 3 then (noB p.ty || memW typesW p.ty) && (noB p.st || (!noB p.ty && isStyleB p.st)) && isNameB p.nm && decide (p.cs.length = 0) && noB p.tx && decide (p.off = 0)
  else if p.k = 4 ∨ p.k = 5 ∨ p.k = 6 then decide (0 ≤ p.off) && decide (p.off ≤ 999999999) && (decide (p.k ≠ 4) || decide (p.off = 0)) && !decide (p.cs.length = 0) && isNameB p.nm && noB p.tx && noB p.ty && noB p.st
  else false
/-- Cases that may be, behind those whose keys are given. -/
def caseR (R : List PT → Bool) (k : Int) : List ByteArray → List CT → Bool
  | _, [] => true
  | ks, c :: cs => !memW ks c.1 && isKeyB k c.1 && R c.2 && caseR R k (ks ++ [c.1]) cs
/-- Has a choice the case 'other'; is it no choice? -/
def otherB (p : PT) : Bool := decide (p.k < 4) || memW (p.cs.map Prod.fst) otherW
/-- Parts that may be, behind one of a kind. -/
def rightL (R : List PT → Bool → Bool) (h : Bool) : Int → List PT → Bool
  | _, [] => true
  | q, p :: l => plainB p h && !(p.k == 1 && q == 1) && caseR (fun m => R m (decide (p.k ≠ 4))) p.k [] p.cs && otherB p && rightL R h p.k l
/-- Parts that may be; n: how deep. -/
def rightF : Nat → List PT → Bool → Bool
  | 0, _, _ => false
  | n + 1, l, h => rightL (rightF n) h 0 l
def sumC (S : List PT → Nat) : List CT → Nat
  | [] => 0
  | c :: cs => S c.2 + sumC S cs
def sumL (S : List PT → Nat) : List PT → Nat
  | [] => 0
  | p :: l => sumC S p.cs + sumL S l
/-- How many parts there are. -/
def sizeF : Nat → List PT → Nat
  | 0, _ => 0
  | n + 1, l => l.length + sumL (sizeF n) l
/-- The cases of a choice; none of any other part. -/
def casesP (p : PT) : List CT := if p.k < 4 ∨ 6 < p.k then [] else p.cs
def mostC (D : List PT → Nat) : Nat → List CT → Nat
  | m, [] => m
  | m, c :: cs => mostC D (max m (1 + D c.2)) cs
def mostL (D : List PT → Nat) : Nat → List PT → Nat
  | m, [] => m
  | m, p :: l => mostL D (mostC D m (casesP p)) l
/-- How many choices stand within one another. -/
def depthF : Nat → List PT → Nat
  | 0, _ => 0
  | n + 1, l => mostL (depthF n) 0 l
/-- Has a byte to be quoted? -/
def specB (h : Bool) (b : UInt8) : Bool := b == 123 || b == 125 || (b == 35 && h)
def dbl (l : List UInt8) : List UInt8 := l.flatMap fun b => if b = 39 then [39, 39] else [b]
/-- Where the first byte of a kind stands; behind where the last one stands; 0: nowhere. -/
def lastN (c : UInt8 → Bool) (l : List UInt8) : Nat := l.length - l.reverse.findIdx c
def dressL (h : Bool) (l : List UInt8) : List UInt8 :=
  if l.any (specB h) then dbl (l.take (l.findIdx (specB h))) ++ [39] ++ dbl ((l.take (lastN (specB h) l)).drop (l.findIdx (specB h))) ++ [39] ++ dbl (l.drop (lastN (specB h) l)) else dbl l
def wordB (k : Int) : ByteArray := if k = 4 then selectW else if k = 5 then pluralW else ordinalW
def caseW (W : List PT → List UInt8) : Bool → List CT → List UInt8
  | _, [] => []
  | b, c :: cs => (if b then [32] else []) ++ c.1.data.toList ++ [123] ++ W c.2 ++ [125] ++ caseW W true cs
def partW (W : List PT → Bool → List UInt8) (h : Bool) (p : PT) : List UInt8 :=
  if p.k = 1 then dressL h p.tx.data.toList
  else if p.k = 2 then [35]
  else if p.k = 3 then [123] ++ p.nm.data.toList ++ (if noB p.ty then [] else [44, 32] ++ p.ty.data.toList) ++ (if noB p.st then [] else [44, 32] ++ p.st.data.toList) ++ [125]
  else if p.k = 4 ∨ p.k = 5 ∨ p.k = 6 then [123] ++ p.nm.data.toList ++ [44, 32] ++ (wordB p.k).data.toList ++ [44, 32] ++ (if p.off = 0 then [] else offW ++ Lib.itoa p.off ++ [32]) ++ caseW (fun m => W m (decide (p.k ≠ 4))) false p.cs ++ [125]
  else []
def writeL (W : List PT → Bool → List UInt8) (h : Bool) : List PT → List UInt8
  | [] => []
  | p :: l => partW W h p ++ writeL W h l
/-- The one form of parts. -/
def writeF : Nat → List PT → Bool → List UInt8
  | 0, _, _ => []
  | n + 1, l, h => writeL (writeF n) h l
/-- What Print tells. -/
def formF (n : Nat) (l : List PT) : List UInt8 × Int :=
  if rightF n l false = false then ([], 2)
  else if 1024 < sizeF n l ∨ 8 < depthF n l ∨ 4096 < (writeF n l false).length then ([], 3)
  else (writeF n l false, 0)
end Go.Proofs.YtmfoiceofhcicaaGreatDoor
