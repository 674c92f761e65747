/- Words for memory: a block known whole, what a call keeps, the ground of all calls. No program. -/
import Derived.Below
import Derived.Laws.OwnMore
import Derived.Deep.AppendLies
import Derived.Deep.Draws
import Derived.Laws.Rows
import Derived.Lib.Hide
import Derived.Shelf.Unicode.DecodeSlow
import Derived.Maps.AppendAt
import Derived.RegionTactic
import Derived.OwnWalk
import Derived.StillTailTactics
import Derived.ScopeJumps
namespace Go.Proofs.YtmfoiceofhcicaaGreatDoor
open Go.RowKit

/-- All blocks of w but those of the list stand in w'. -/
structure Keep (bs : List Nat) (w w' : World) : Prop where
  os : w'.os = w.os
  tape : w'.tape = w.tape
  output : w'.output = w.output
  size : w.heap.size ≤ w'.heap.size
  block : ∀ k, k < w.heap.size → k ∉ bs → w'.heap[k]? = w.heap[k]?

section
variable {bs cs : List Nat} {a b c w w' : World} {B : Nat}
theorem Keep.refl (bs : List Nat) (w : World) : Keep bs w w := ⟨rfl, rfl, rfl, Nat.le_refl _, fun _ _ _ => rfl⟩
theorem Keep.trans (h : Keep bs a b) (k : Keep cs b c) (hs : ∀ x ∈ cs, x ∈ bs ∨ a.heap.size ≤ x) : Keep bs a c :=
  ⟨k.os.trans h.os, k.tape.trans h.tape, k.output.trans h.output, Nat.le_trans h.size k.size, fun i hi hn =>
    (k.block i (Nat.lt_of_lt_of_le hi h.size) (fun hc => (hs i hc).elim hn (fun h1 => absurd hi (Nat.not_lt.2 h1)))).trans (h.block i hi hn)⟩
theorem Keep.same (h : Keep bs a b) (k : Keep bs b c) : Keep bs a c := h.trans k fun _ hx => .inl hx
theorem Keep.nil (h : Keep bs a b) (k : Keep [] b c) : Keep bs a c := h.trans k fun _ hx => by cases hx
theorem Keep.mono (h : Keep bs a b) (hs : ∀ x ∈ bs, x ∈ cs ∨ a.heap.size ≤ x) : Keep cs a b := (Keep.refl cs a).trans h hs
theorem Keep.of_below (h : Below a.heap.size a b) : Keep bs a b := ⟨h.os, h.tape, h.output, h.size, fun k hk _ => h.block k hk⟩
theorem Keep.below (h : Keep bs a b) (hs : ∀ x ∈ bs, B ≤ x) (hB : B ≤ a.heap.size) : Below B a b :=
  ⟨h.os, h.tape, h.output, h.size, fun k hk => h.block k (by omega) fun hc => by have := hs k hc; omega⟩
theorem Keep.toBelow (h : Keep [] a b) : Below a.heap.size a b := h.below (fun _ hx => by cases hx) (Nat.le_refl _)
theorem Keep.drew (h : Keep bs a w) : Keep bs a w.drew := ⟨h.os, h.tape, h.output, h.size, h.block⟩
theorem Keep.drewN (h : Keep bs a w) (n : Nat) : Keep bs a (w.drewN n) := ⟨h.os, h.tape, h.output, h.size, h.block⟩
theorem Keep.alloc (h : Keep bs a w) (o : Obj) : Keep bs a (w.alloc o) :=
  h.nil ⟨rfl, rfl, rfl, by simp, fun k hk _ => Below.heap_alloc _ _ _ hk⟩
theorem Keep.setCell (h : Keep bs a w) {p : Addr} (hp : p.block ∈ bs ∨ a.heap.size ≤ p.block) (u : Value) : Keep bs a (w.setCell p u) :=
  h.trans (cs := [p.block]) ⟨rfl, rfl, rfl, by simp [World.setCell], fun k _ hn => Below.heap_setCell _ _ _ _ (by simpa using hn)⟩ (fun x hx => by simp at hx; subst hx; exact hp)
theorem Keep.grown {row : Option Nat} (h : Keep bs a w) (hg : w.grownBy w' row) (hr : ∀ k, row = some k → k ∈ bs ∨ a.heap.size ≤ k) : Keep bs a w' :=
  h.trans (cs := row.toList) ⟨hg.os, hg.tape, hg.output, hg.size, fun k hk hn => hg.block k hk (by rintro rfl; simp at hn)⟩ (fun x hx => by simp at hx; exact hr x hx)
theorem Keep.cell (h : Keep bs w w') {p : Addr} (hp : p.block < w.heap.size) (hn : p.block ∉ bs) : w'.cell? p = w.cell? p := World.cell?_of_block (h.block p.block hp hn)
theorem Keep.frozen (h : Keep bs w w') {p : Addr} (hp : p.block < w.heap.size) (hn : p.block ∉ bs) : w'.frozen? p = w.frozen? p := World.frozen?_of_block (h.block p.block hp hn)
end

/-- Block g is just these cells, none frozen. -/
def Blk (w : World) (g : Nat) (t : TypeId) (cs : Array Value) : Prop := w.heap[g]? = some (.cells cs t (0, 0))

section
variable {w w' : World} {g : Nat} {t : TypeId} {cs : Array Value} {bs : List Nat}
theorem Blk.lt (h : Blk w g t cs) : g < w.heap.size := by
  rcases Nat.lt_or_ge g w.heap.size with hlt | hge
  · exact hlt
  · unfold Blk at h; rw [Array.getElem?_eq_none hge] at h; cases h
theorem Blk.cell (h : Blk w g t cs) (i : Nat) : w.cell? ⟨g, i, none⟩ = cs[i]? := cell_of_row w g i cs t (0, 0) h
theorem Blk.cell_eq (h : Blk w g t cs) {i : Nat} {v : Value} (hv : cs[i]? = some v) : w.cell? ⟨g, i, none⟩ = some v := (h.cell i).trans hv
theorem Blk.frozen (h : Blk w g t cs) (i : Nat) : w.frozen? ⟨g, i, none⟩ = false := by
  unfold Blk at h
  simp [World.frozen?, h]
theorem Blk.new (w : World) (t : TypeId) (cs : Array Value) : Blk (w.alloc (.cells cs t)) w.heap.size t cs := heap_alloc_new w _
theorem Blk.new' (w : World) (t : TypeId) (cs : Array Value) (n : Nat) (hn : w.heap.size = n) : Blk (w.alloc (.cells cs t)) n t cs := by subst hn; exact heap_alloc_new w _
theorem Blk.drew (h : Blk w g t cs) : Blk w.drew g t cs := h
theorem Blk.drewN (h : Blk w g t cs) (n : Nat) : Blk (w.drewN n) g t cs := h
theorem Blk.alloc (h : Blk w g t cs) (o : Obj) : Blk (w.alloc o) g t cs := (Below.heap_alloc w o g h.lt).trans h
theorem Blk.set_ (h : Blk w g t cs) (i : Nat) (u : Value) : Blk (w.setCell ⟨g, i, none⟩ u) g t (cs.setIfInBounds i u) := by
  unfold Blk at h ⊢
  simp [World.setCell, Array.getElem?_modify, h]
theorem Blk.far (h : Blk w g t cs) {p : Addr} (hp : g ≠ p.block) (u : Value) : Blk (w.setCell p u) g t cs := (Below.heap_setCell w p u g hp).trans h
theorem Blk.below {B : Nat} (h : Blk w g t cs) (hb : Below B w w') (hg : g < B) : Blk w' g t cs := (hb.block g hg).trans h
theorem Blk.keep (h : Blk w g t cs) (hb : Keep bs w w') (hg : g ∉ bs) : Blk w' g t cs := (hb.block g h.lt hg).trans h
theorem Blk.grown {row : Option Nat} (h : Blk w g t cs) (hb : w.grownBy w' row) (hg : some g ≠ row) : Blk w' g t cs := (hb.block g h.lt hg).trans h
theorem Blk.ne_ {g' : Nat} {t' : TypeId} {cs' : Array Value} (h : Blk w g t cs) (h' : Blk w g' t' cs') (hne : t ≠ t') : g ≠ g' := by
  rintro rfl
  unfold Blk at h h'
  rw [h] at h'
  injection h' with h'
  injection h' with _ ht
  exact hne ht
theorem own_blk_ne {base : Nat} {e : TypeId} {size n : Nat} {v : Value} {xs : List Value} (h : w.ownsRow base e size v n xs) (hg : Blk w g t cs) (hne : e ≠ t) : v.ownBlock ≠ some g := by
  rcases h.2 with ⟨rfl, _⟩ | ⟨g', cap, cur, rfl, _, hh, _⟩
  · simp [Value.ownBlock]
  · intro he
    have : g' = g := by simpa [Value.ownBlock] using he
    subst this
    exact Blk.ne_ (t := e) hh hg hne rfl
end

/-- The ground of a law's calls: its own blocks lie from B on; the decoder's tables stand. -/
structure Env (B : Nat) (w : World) : Prop where
  lt : 10 < B
  le : B ≤ w.heap.size
  tabs : Lib.Utf8Tabs 6 7 w
theorem Env.below {B : Nat} {w w' : World} (h : Env B w) (hb : Below B w w') : Env B w' := by
  refine ⟨h.lt, Nat.le_trans h.le hb.size, fun c hc => ?_, fun i hi => ⟨?_, ?_⟩⟩
  · exact (hb.cell (p := ⟨6, c, none⟩) (by have := h.lt; simp; omega)).trans (h.tabs.1 c hc)
  · exact (hb.cell (p := ⟨7, 2 * i, none⟩) (by have := h.lt; simp; omega)).trans (h.tabs.2 i hi).1
  · exact (hb.cell (p := ⟨7, 2 * i + 1, none⟩) (by have := h.lt; simp; omega)).trans (h.tabs.2 i hi).2
theorem Env.keep {B : Nat} {bs : List Nat} {w w' : World} (h : Env B w) (hb : Keep bs w w') (hs : ∀ x ∈ bs, B ≤ x) : Env B w' := h.below (hb.below hs h.le)
theorem Env.drewN {B : Nat} {w : World} (h : Env B w) (n : Nat) : Env B (w.drewN n) := ⟨h.lt, h.le, h.tabs⟩

/-! ### a slice that reads as a list of cells -/
theorem add_of_add (a : Addr) (i j : Nat) : (a.add i).add j = a.add (i + j) := by
  unfold Addr.add
  by_cases hi : i = 0 <;> by_cases hj : j = 0 <;> simp [hi, hj, Nat.add_assoc]
section
variable {w w' : World} {size n : Nat} {v : Value} {xs : List Value} {bs : List Nat}
end

/-- A region that draws its order: all operations but the last ones only read; the last ones stand in one order. The world is told as a draw. -/
theorem region_tail {P : Program} {id : Nat} {Q : Exit → Act → World → Prop} {a : Act} {w : World} {l : List Oper} (n : Nat) (h1 : P.follows Departure.mixedOrders = true) (h2 : Region.lexTailB Region.Mode.any l.toArray n = true)
    (h : wpStill P l.toArray w.drew (fun a' => wpList P l.toArray Q (List.drop n l) a' w.drew) (List.take n l) a) : Code.wp P (Code.region id l.toArray true) Q a w := wp_region_still_tail n h1 h2 h

end Go.Proofs.YtmfoiceofhcicaaGreatDoor
