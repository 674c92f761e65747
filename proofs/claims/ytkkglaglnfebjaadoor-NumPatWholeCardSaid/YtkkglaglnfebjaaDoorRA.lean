/- Pieces in memory, as a slice that came in or was made; plain laws. No walk. -/
import Derived.Test.YtkkglaglnfebjaaDoorNP
namespace Go.Proofs.YtkkglaglnfebjaaDoor
open Go.RowKit

/-- The slice value v reads as the pieces l. -/
def RdA (w : World) (v : Value) (l : List Aff) : Prop :=
  ∃ A cap, v = .slice A l.length cap ∧ l.length ≤ cap ∧ cap ≤ maxLen ∧
    (l ≠ [] → ∃ b o, A = some ⟨b, o, none⟩ ∧ b < w.heap.size ∧ ∀ j u, (affC l)[j]? = some u → w.cell? ⟨b, o + j, none⟩ = some u)
section
variable {w w' : World} {v : Value} {l : List Aff} {bs : List Nat}
theorem RdA.keep (h : RdA w v l) (hk : Keep bs w w') (hb : ∀ b o n c, v = .slice (some ⟨b, o, none⟩) n c → b ∉ bs) : RdA w' v l := by
  obtain ⟨A, cap, rfl, h1, h2, h3⟩ := h
  refine ⟨A, cap, rfl, h1, h2, fun hl => ?_⟩
  obtain ⟨b, o, rfl, hlt, hc⟩ := h3 hl
  exact ⟨b, o, rfl, Nat.lt_of_lt_of_le hlt hk.size, fun j u hu => (hk.cell (p := ⟨b, o + j, none⟩) hlt (hb b o _ _ rfl)).trans (hc j u hu)⟩
theorem RdA.keep_nil (h : RdA w v l) (hk : Keep [] w w') : RdA w' v l := h.keep hk (by simp)
theorem RdA.drewN (h : RdA w v l) (n : Nat) : RdA (w.drewN n) v l := h.keep_nil ((Keep.refl [] w).drewN n)
theorem RdA.nil (w : World) : RdA w (.slice none 0 0) [] := ⟨none, 0, rfl, Nat.le_refl _, by simp [maxLen], fun h => absurd rfl h⟩
theorem affC_in (l : List Aff) (i : Nat) (a : Aff) (h : l[i]? = some a) (j : Nat) (hj : j < 3) : (affC l)[i * 3 + j]? = a.cells[j]? := by
  have h3 := affC_at l i a h
  match j, hj with
  | 0, _ => exact h3.1
  | 1, _ => exact h3.2.1
  | 2, _ => exact h3.2.2
theorem OwnA.reads {B : Nat} (h : OwnA w B v l) : RdA w v l := by
  have h' := h
  unfold OwnA at h'
  rcases h'.2 with ⟨rfl, h0⟩ | ⟨g, cap, cur, rfl, hB, hg, hn, hcap, hsz, htk⟩
  · have : l = [] := List.eq_nil_of_length_eq_zero h0
    subst this
    exact RdA.nil w
  · refine ⟨_, cap, rfl, hn, hcap, fun _ => ⟨g, 0, rfl, (Array.getElem?_eq_some_iff.1 hg).1, fun j u hu => ?_⟩⟩
    have hj : j < l.length * 3 := by
      have := (List.getElem?_eq_some_iff.1 hu).1
      rw [affC_length] at this
      exact this
    rw [Nat.zero_add]
    exact (World.ownsRow.cellAt h' j (by omega)).trans hu
end

/-- May a piece stand behind one of kind ah? -/
def affOk (a : Aff) (ah : Int) : Bool :=
  if a.k = 1 then decide (a.c = 0 ∧ a.t.toList ≠ [] ∧ brk a.t < 0 ∧ ah ≠ 1)
  else if a.k = 5 then decide (a.t.toList = [] ∧ 1 ≤ a.c ∧ a.c ≤ 3 ∧ ah ≠ 5)
  else if a.k = 2 ∨ a.k = 3 ∨ a.k = 4 then decide (a.c = 0 ∧ a.t.toList = []) else false
/-- May pieces be, behind one of kind ah? -/
def fitsS : Int → List Aff → Bool
  | _, [] => true
  | ah, a :: l => affOk a ah && fitsS a.k l
/-- A pattern, as data. -/
structure PatD where
  pre : List Aff
  suf : List Aff
  neg : Bool
  npre : List Aff
  nsuf : List Aff
  mi : Int
  mf : Int
  xf : Int
  g : Int
  g2 : Int
def patV (v1 v2 v3 v4 : Value) (p : PatD) : Value := .agg #[v1, v2, .bool p.neg, v3, v4, .int .i64 p.mi, .int .i64 p.mf, .int .i64 p.xf, .int .i64 p.g, .int .i64 p.g2]
/-- Four slice values read as a pattern's pieces. -/
structure RdP (w : World) (v1 v2 v3 v4 : Value) (p : PatD) : Prop where
  pre : RdA w v1 p.pre
  suf : RdA w v2 p.suf
  npre : RdA w v3 p.npre
  nsuf : RdA w v4 p.nsuf
theorem RdP.keep_nil {w w' : World} {v1 v2 v3 v4 : Value} {p : PatD} (h : RdP w v1 v2 v3 v4 p) (hk : Keep [] w w') : RdP w' v1 v2 v3 v4 p :=
  ⟨h.pre.keep_nil hk, h.suf.keep_nil hk, h.npre.keep_nil hk, h.nsuf.keep_nil hk⟩
def withinB (n lo hi : Int) : Bool := decide (lo ≤ n ∧ n ≤ hi)
def groupsB (g g2 : Int) : Bool := decide (g = 0 ∧ g2 = 0 ∨ 1 ≤ g ∧ g ≤ 63 ∧ 1 ≤ g2 ∧ g2 ≤ 63 ∧ (g = g2 ∨ g + g2 < 64))
/-- May a pattern's numbers be? -/
def numsB (p : PatD) : Bool := decide (1 ≤ p.mi ∧ p.mi ≤ 64 ∧ 0 ≤ p.xf ∧ p.xf ≤ 64 ∧ 0 ≤ p.mf ∧ p.mf ≤ p.xf) && groupsB p.g p.g2
/-- May a pattern be? -/
def rightB (p : PatD) : Bool :=
  numsB p && (p.neg || (p.npre.isEmpty && p.nsuf.isEmpty)) && (fitsS 0 p.pre && (fitsS 0 p.suf && (fitsS 0 p.npre && fitsS 0 p.nsuf)))
def errB (b : Bool) : Int := if b then 0 else 2
/-- A pattern's lists are not too long, nor their texts. -/
structure PatSz (p : PatD) : Prop where
  len : p.pre.length ≤ 1000000000 ∧ p.suf.length ≤ 1000000000 ∧ p.npre.length ≤ 1000000000 ∧ p.nsuf.length ≤ 1000000000
  txt : ∀ a, a ∈ p.pre ∨ a ∈ p.suf ∨ a ∈ p.npre ∨ a ∈ p.nsuf → a.t.size ≤ 9223372036854775000
def rightTail (p : PatD) : Bool := fitsS 0 p.pre && (fitsS 0 p.suf && (fitsS 0 p.npre && fitsS 0 p.nsuf))
def pieceAt (p : PatD) : Nat → List Aff
  | 0 => p.pre
  | 1 => p.suf
  | 2 => p.npre
  | _ => p.nsuf
def tailFrom (p : PatD) : Nat → Bool
  | 0 => rightTail p
  | 1 => fitsS 0 p.suf && (fitsS 0 p.npre && fitsS 0 p.nsuf)
  | 2 => fitsS 0 p.npre && fitsS 0 p.nsuf
  | 3 => fitsS 0 p.nsuf
  | _ => true
theorem tailFrom_step (p : PatD) (m : Nat) (h : m < 4) : tailFrom p m = (fitsS 0 (pieceAt p m) && tailFrom p (m + 1)) := by
  match m, h with
  | 0, _ => rfl
  | 1, _ => rfl
  | 2, _ => rfl
  | 3, _ => simp [tailFrom, pieceAt]
/-- The first thirty of a pattern's pieces. -/
def cutD (p : PatD) : PatD := ⟨p.pre.take 30, p.suf.take 30, p.neg, p.npre.take 30, p.nsuf.take 30, p.mi, p.mf, p.xf, p.g, p.g2⟩
theorem affC_take (l : List Aff) (n j : Nat) (h : j < (affC (l.take n)).length) : (affC (l.take n))[j]? = (affC l)[j]? := by
  have : affC l = affC (l.take n) ++ affC (l.drop n) := by rw [← affC_append, List.take_append_drop]
  rw [this, List.getElem?_append_left h]
theorem RdA.take {w : World} {A : Option Addr} {n cap : Nat} {l : List Aff} (h : RdA w (.slice A n cap) l) (m : Nat) (hm : m ≤ n) : RdA w (.slice A m cap) (l.take m) := by
  obtain ⟨A', cap', he, h1, h2, h3⟩ := h
  injection he with e1 e2 e3
  subst e1 e2 e3
  refine ⟨A, cap, by rw [List.length_take]; congr; omega, by rw [List.length_take]; omega, h2, fun hl => ?_⟩
  obtain ⟨b, o, rfl, hb, hc⟩ := h3 (by rintro rfl; simp at hl)
  refine ⟨b, o, rfl, hb, fun j u hu => hc j u ?_⟩
  rw [← affC_take l m j (List.getElem?_eq_some_iff.1 hu).1]
  exact hu
theorem RdA.len {w : World} {A : Option Addr} {n cap : Nat} {l : List Aff} (h : RdA w (.slice A n cap) l) : n = l.length ∧ n ≤ cap ∧ cap ≤ maxLen := by
  obtain ⟨A', cap', he, h1, h2, h3⟩ := h
  injection he with e1 e2 e3
  subst e1 e2 e3
  exact ⟨rfl, h1, h2⟩
end Go.Proofs.YtkkglaglnfebjaaDoor
