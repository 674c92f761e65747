/- Plain: the reader of messages. No walk. -/
import Derived.Test.YtmfoiceofhcicaaGreatDoorMT
import Derived.Test.YtmfoiceofhcicaaGreatDoorUtf
import Derived.Lib.AtoiAll
import Derived.Lib.ItoaNum
import Derived.Lib.Strings
namespace Go.Proofs.YtmfoiceofhcicaaGreatDoor
open Go.RowKit

/-- The byte at a place; -1: the text has ended. -/
def byt (s : ByteArray) (p : Nat) : Int := if h : p < s.size then (s[p].toNat : Int) else -1
theorem byt_in {s : ByteArray} {p : Nat} (h : p < s.size) : byt s p = (s[p].toNat : Int) := by unfold byt; rw [dif_pos h]
/-- The first place from p on that is not of a kind. -/
def spanF (c : Nat → Bool) : Nat → Nat → Nat
  | 0, p => p
  | f + 1, p => if c p then spanF c f (p + 1) else p
def blI (x : Int) : Bool := x == 9 || x == 10 || x == 13 || x == 32
def startI (x : Int) : Bool := decide (97 ≤ x ∧ x ≤ 122) || decide (65 ≤ x ∧ x ≤ 90) || x == 95
def digI (x : Int) : Bool := decide (48 ≤ x) && decide (x ≤ 57)
def nameI (x : Int) : Bool := startI x || digI x || x == 45 || x == 46
/-- Behind blanks. -/
def skip (s : ByteArray) (p : Nat) : Nat := spanF (fun i => blI (byt s i)) (s.size - p) p
/-- What reading comes to: steps ran out, an error and its place, or what was read and the place behind. -/
inductive RR (α : Type) where
  | out
  | bad (e : Int) (p : Nat)
  | ok (a : α) (p : Nat)
/-- The same, with how many parts were read. -/
inductive RM (α : Type) where
  | out
  | bad (e : Int) (p : Nat)
  | ok (a : α) (p n : Nat)
def RR.then {α β : Type} (r : RR α) (k : α → Nat → RR β) : RR β :=
  match r with
  | .out => .out
  | .bad e p => .bad e p
  | .ok a p => k a p
def RM.then {α β : Type} (r : RM α) (k : α → Nat → Nat → RM β) : RM β :=
  match r with
  | .out => .out
  | .bad e p => .bad e p
  | .ok a p n => k a p n

/-- The number of digits; none: they are none. -/
def numV (t : ByteArray) : Option Int :=
  match Lib.atoiAll t.data.toList with
  | .ok v => if t.size ≤ 9 ∧ Lib.itoa v = t.data.toList ∧ 0 ≤ v then some v else none
  | _ => none
def trimL (l : List UInt8) : List UInt8 := l.dropWhile fun b => blI b.toNat
def trimR (l : List UInt8) : List UInt8 := (trimL l.reverse).reverse
def trimB (t : ByteArray) : ByteArray := ⟨(trimL (trimR t.data.toList)).toArray⟩
/-- Is a word among words? -/
def memW (ws : List ByteArray) (x : ByteArray) : Bool := ws.any fun y => decide (y = x)
theorem memW_iff (ws : List ByteArray) (x : ByteArray) : memW ws x = true ↔ x ∈ ws := by
  unfold memW
  rw [List.any_eq_true]
  constructor
  · rintro ⟨y, hy, he⟩
    rw [decide_eq_true_iff] at he
    exact he ▸ hy
  · exact fun h => ⟨x, h, by simp⟩
def catsW : List ByteArray := [⟨#[122, 101, 114, 111]⟩, ⟨#[111, 110, 101]⟩, ⟨#[116, 119, 111]⟩, ⟨#[102, 101, 119]⟩, ⟨#[109, 97, 110, 121]⟩, ⟨#[111, 116, 104, 101, 114]⟩]
def typesW : List ByteArray := [⟨#[110, 117, 109, 98, 101, 114]⟩, ⟨#[100, 97, 116, 101]⟩, ⟨#[116, 105, 109, 101]⟩, ⟨#[108, 105, 115, 116]⟩, ⟨#[117, 110, 105, 116]⟩, ⟨#[114, 101, 108, 97, 116, 105, 118, 101]⟩, ⟨#[112, 108, 97, 110, 101]⟩]
def otherW : ByteArray := ⟨#[111, 116, 104, 101, 114]⟩
def textP (t : ByteArray) : PT := ⟨1, t, ⟨#[]⟩, ⟨#[]⟩, ⟨#[]⟩, 0, []⟩
def hashP : PT := ⟨2, ⟨#[]⟩, ⟨#[]⟩, ⟨#[]⟩, ⟨#[]⟩, 0, []⟩
abbrev CT := ByteArray × List PT
def offW : List UInt8 := [111, 102, 102, 115, 101, 116, 58]
def selectW : ByteArray := ⟨#[115, 101, 108, 101, 99, 116]⟩
def pluralW : ByteArray := ⟨#[112, 108, 117, 114, 97, 108]⟩
def ordinalW : ByteArray := ⟨#[115, 101, 108, 101, 99, 116, 111, 114, 100, 105, 110, 97, 108]⟩
end Go.Proofs.YtmfoiceofhcicaaGreatDoor
