/- Words for the world of code.list: its listing, its reader. No walk. -/
import Derived.Test.YtmfoiceofhcicaaGreatDoorKW
namespace Go.Proofs.YtmfoiceofhcicaaGreatDoor
open Go.RowKit Go.IntWalk

/-- The world of code.list: the listing (its texts, its instructions, its places), the reader. -/
structure LW (w : World) (B mb xb lx rx g : Nat) (v : Value) (b : List UInt8) (k f : Nat) (pv : Value) (P : List ByteArray) (ov : Value) (ops : List OT) : Prop where
  xB : Blk w xb 77 #[pv, ov, .map (some mb)]
  lB : Blk w lx 72 #[.pointer (some ⟨xb, 0, none⟩)]
  rB : Blk w rx 134 #[.pointer (some ⟨g, 0, none⟩)]
  pO : OwnS w B pv P
  oO : OwnO w B ov ops
  mO : OwnMapN w mb ops.length (atN (.map []) 0 ops)
  rd : Rdr w g v b k f
  bO : OwnU w B v b
  le : B ≤ w.heap.size
section
variable {w w' wm w1 : World} {B mb xb lx rx g : Nat} {v : Value} {b : List UInt8} {k f k' f' : Nat} {pv : Value} {P : List ByteArray} {ov : Value} {ops : List OT} {bs : List Nat}
theorem LW.norow (h : LW w B mb xb lx rx g v b k f pv P ov ops) (hb : ∀ x ∈ bs, x = g ∨ ∃ c, Blk w x 4 c) : ∀ x ∈ bs, NoRow w x := fun x hx => by
  rcases hb x hx with rfl | ⟨c, hc⟩
  · exact NoRow.blk h.rd.blk (by decide)
  · exact NoRow.blk hc (by decide)
theorem LW.go (h : LW w B mb xb lx rx g v b k f pv P ov ops) (hk : Keep bs w w') (hb : ∀ x ∈ bs, x = g ∨ ∃ c, Blk w x 4 c) (hr : Rdr w' g v b k' f') : LW w' B mb xb lx rx g v b k' f' pv P ov ops := by
  have hn := h.norow hb
  have hblk : ∀ {t : TypeId} {cs : Array Value} {y : Nat}, Blk w y t cs → t ≠ 164 → t ≠ 4 → Blk w' y t cs := fun hy h1 h2 => hy.keep hk fun hc => by
    rcases hb _ hc with rfl | ⟨c, hc⟩
    · exact hy.ne_ h.rd.blk h1 rfl
    · exact hy.ne_ hc h2 rfl
  refine ⟨hblk h.xB (by decide) (by decide), hblk h.lB (by decide) (by decide), hblk h.rB (by decide) (by decide), h.pO.keepR hk hn, h.oO.keepR hk hn, h.mO.keep hk (fun hc => ?_), hr, h.bO.keepR hk hn, Nat.le_trans h.le hk.size⟩
  rcases hb _ hc with hc | ⟨c, hc⟩
  · exact ownMapN_ne h.mO h.rd.blk hc
  · exact ownMapN_ne h.mO hc rfl
theorem LW.nil (h : LW w B mb xb lx rx g v b k f pv P ov ops) (hk : Keep [] w w') : LW w' B mb xb lx rx g v b k f pv P ov ops := h.go hk (by simp) (h.rd.keep hk)
/-- A text more (ahead of all instructions). -/
theorem LW.pool {pv' : Value} {P' : List ByteArray} (h : LW w B mb xb lx rx g v b k f pv P (.slice none 0 0) []) (hk : Keep pv.ownBlock.toList w w1) (ho : OwnS w1 B pv' P') :
    LW (w1.setCell ⟨xb, 0, none⟩ pv') B mb xb lx rx g v b k f pv' P' (.slice none 0 0) [] ∧ Keep (xb :: pv.ownBlock.toList) w (w1.setCell ⟨xb, 0, none⟩ pv') := by
  have hblk : ∀ {t : TypeId} {cs : Array Value} {y : Nat}, Blk w y t cs → 9 ≠ t → Blk w1 y t cs := fun hy h1 => hy.keep hk fun hc => own_blk_ne h.pO hy h1 (by simpa using hc)
  have hx1 := hblk h.xB (by decide)
  have hk2 : Keep [xb] w1 (w1.setCell ⟨xb, 0, none⟩ pv') := Keep.setCell (Keep.refl _ _) (.inl (by simp)) _
  have hnr : ∀ x ∈ [xb], NoRow w1 x := by simpa using NoRow.blk hx1 (by decide)
  have hU1 : OwnU w1 B v b := h.bO.keep hk (own_own_ne h.bO h.pO (by decide))
  have hU2 := hU1.keepR hk2 hnr
  have hg1 : g ≠ xb := h.rd.blk.ne_ h.xB (by decide)
  have hR1 : Rdr w1 g v b k f := h.rd.keepO hU1 hk fun hc => own_blk_ne h.pO h.rd.blk (by decide) (by simpa using hc)
  have hM1 : OwnMapN w1 mb 0 (atN (.map []) 0 []) := h.mO.keep hk (row_mapN h.pO h.mO)
  refine ⟨⟨hx1.set_ 0 _, (hblk h.lB (by decide)).keep hk2 (by simpa using h.lB.ne_ h.xB (by decide)), (hblk h.rB (by decide)).keep hk2 (by simpa using h.rB.ne_ h.xB (by decide)), ho.keepR hk2 hnr, OwnO.nil _ _,
    hM1.keep hk2 (by simpa using ownMapN_ne hM1 hx1), hR1.keepO hU2 hk2 (by simpa using hg1), hU2, Nat.le_trans h.le (Nat.le_trans hk.size hk2.size)⟩, (hk.mono (fun x hx => .inl (List.mem_cons_of_mem _ hx))).trans hk2 (fun x hx => .inl (by simp at hx; simp [hx]))⟩
/-- An instruction more. -/
theorem LW.op {ov' : Value} {o : OT} (h : LW w B mb xb lx rx g v b k f pv P ov ops) (hk0 : Keep [mb] w wm) (hm : OwnMapN wm mb (ops.length + 1) (putN (atN (.map []) 0 ops) o.at_ ops.length))
    (hk : Keep ov.ownBlock.toList wm w1) (ho : OwnO w1 B ov' (ops ++ [o])) :
    LW (w1.setCell ⟨xb, 1, none⟩ ov') B mb xb lx rx g v b k f pv P ov' (ops ++ [o]) ∧ Keep (mb :: xb :: ov.ownBlock.toList) w (w1.setCell ⟨xb, 1, none⟩ ov') := by
  have hnm : ∀ x ∈ [mb], NoRow w x := by simpa using NoRow.map h.mO
  have hblk0 : ∀ {t : TypeId} {cs : Array Value} {y : Nat}, Blk w y t cs → Blk wm y t cs := fun hy => hy.keep hk0 fun hc => by
    simp at hc
    exact ownMapN_ne h.mO hy hc.symm
  have hO0 := h.oO.keepR hk0 hnm
  obtain ⟨us, e1, e2, e3⟩ := hO0
  have hblk : ∀ {t : TypeId} {cs : Array Value} {y : Nat}, Blk w y t cs → 36 ≠ t → Blk w1 y t cs := fun hy h1 => (hblk0 hy).keep hk fun hc => own_blk_ne e2 (hblk0 hy) h1 (by simpa using hc)
  have hx1 := hblk h.xB (by decide)
  have hk2 : Keep [xb] w1 (w1.setCell ⟨xb, 1, none⟩ ov') := Keep.setCell (Keep.refl _ _) (.inl (by simp)) _
  have hnr : ∀ x ∈ [xb], NoRow w1 x := by simpa using NoRow.blk hx1 (by decide)
  have hU0 := h.bO.keepR hk0 hnm
  have hU1 : OwnU w1 B v b := hU0.keep hk (own_own_ne hU0 e2 (by decide))
  have hU2 := hU1.keepR hk2 hnr
  have hg1 : g ≠ xb := h.rd.blk.ne_ h.xB (by decide)
  have hg0 : g ≠ mb := fun hc => ownMapN_ne h.mO h.rd.blk hc.symm
  have hR0 : Rdr wm g v b k f := h.rd.keepO hU0 hk0 (by simpa using hg0)
  have hR1 : Rdr w1 g v b k f := hR0.keepO hU1 hk fun hc => own_blk_ne e2 hR0.blk (by decide) (by simpa using hc)
  have hP0 := h.pO.keepR hk0 hnm
  have hP1 : OwnS w1 B pv P := hP0.keep hk (own_own_ne hP0 e2 (by decide))
  have hM1 : OwnMapN w1 mb (ops.length + 1) (putN (atN (.map []) 0 ops) o.at_ ops.length) := hm.keep hk (row_mapN e2 hm)
  refine ⟨⟨hx1.set_ 1 _, (hblk h.lB (by decide)).keep hk2 (by simpa using h.lB.ne_ h.xB (by decide)), (hblk h.rB (by decide)).keep hk2 (by simpa using h.rB.ne_ h.xB (by decide)), hP1.keepR hk2 hnr, ho.keepR hk2 hnr, ?_,
    hR1.keepO hU2 hk2 (by simpa using hg1), hU2, Nat.le_trans h.le (Nat.le_trans hk0.size (Nat.le_trans hk.size hk2.size))⟩, ?_⟩
  · have hM2 := hM1.keep hk2 (by simpa using ownMapN_ne hM1 hx1)
    rw [atN_snoc, List.length_append, List.length_singleton, Nat.zero_add]
    exact hM2
  · exact ((hk0.mono (fun x hx => .inl (by simp at hx; simp [hx]))).trans hk (fun x hx => .inl (by simp at hx; simp [hx]))).trans hk2 (fun x hx => .inl (by simp at hx; simp [hx]))
end
/-- A listing as it is left: texts, instructions, places. -/
def Lst (w : World) (B xb : Nat) (P : List ByteArray) (ops : List OT) : Prop := ∃ pv ov mb, Blk w xb 77 #[pv, ov, .map (some mb)] ∧ OwnS w B pv P ∧ OwnO w B ov ops ∧ OwnMapN w mb ops.length (atN (.map []) 0 ops)
theorem Lst.nil {w w' : World} {B xb : Nat} {P : List ByteArray} {ops : List OT} (h : Lst w B xb P ops) (hk : Keep [] w w') : Lst w' B xb P ops := by
  obtain ⟨pv, ov, mb, h1, h2, h3, h4⟩ := h
  exact ⟨pv, ov, mb, h1.keep hk (by simp), h2.keepR hk (by simp), h3.keepR hk (by simp), h4.keep hk (by simp)⟩
/-- What list tells. -/
def ListO (b : List UInt8) (w : World) (e : Ending) (w' : World) : Prop :=
  Keep [] w w' ∧ match listR b with
  | none => ∃ p, e = .returned (.tuple #[.pointer p, .bool false])
  | some (P, ops) => ∃ xb, e = .returned (.tuple #[.pointer (some ⟨xb, 0, none⟩), .bool true]) ∧ Lst w' w.heap.size xb P ops ∧ P.length ≤ 65535 ∧ ops.length ≤ b.length
/-- append of one text, at a step of a region that draws its order. -/
theorem step_append_t {ops : Array Oper} {o : Oper} {a : Act} {K : Act → World → Prop} {Q : Exit → Act → World → Prop} {E : Prop} (hgd : o.guard = none) (s x : Operand)
    (ho : o.op = .call { callee := .builtin .append, args := #[s, x], argTypes := #[34, 34] }) {w : World} {B : Nat} {v : Value} {l : List ByteArray}
    (hs : a.eval s = v) (hown : OwnS w B v l) (t : ByteArray) (n : Nat) (hn : w.heap.size = n) (hx : a.eval x = .slice (some ⟨n, 0, none⟩) 1 1)
    (hlen : l.length ≤ 1000000000) (hB : B ≤ w.heap.size)
    (h : ∀ A' cap' w', OwnS w' B (.slice A' (l.length + 1) cap') (l ++ [t]) → Keep v.ownBlock.toList w w' → K (a.put o.dst (.slice A' (l.length + 1) cap')) w') :
    if Region.wanted o (yielded ops a.tmps) = true then Oper.wp Tryz.prog o a (w.alloc (.cells #[.string t] 9)) K Q else E := by
  have hw : Region.wanted o (yielded ops a.tmps) = true := by simp [Region.wanted, hgd]
  rw [if_pos hw]
  obtain ⟨i0, hi, hz0, hz1, hz2⟩ := info_parts infoS
  subst hn
  refine wp_append_own _ s x 34 ho B 9 i0 _ 1 16 Tryz.underlying34 hi hz0 hz1 hz2 rfl (by decide) v l.length (l.map Value.string) hs (World.ownsRow.alloc hown _) ⟨w.heap.size, 0, none⟩ 1 1 [.string t] hx (by simp) (new_cellsU w _ rfl [.string t] _) ?_ (by unfold maxLen; omega) (by omega) (by simp; omega) ?_
  · intro u hu
    simp only [List.mem_cons, List.mem_nil_iff, or_false] at hu
    rw [hu]
    rfl
  · intro v' w' h1 h2 _
    have hO : OwnS w' B v' (l ++ [t]) := by
      unfold OwnS
      rw [List.map_append, List.length_append, List.map_cons, List.map_nil]
      exact h1
    obtain ⟨A', cap', hv'⟩ := hO.form
    rw [List.length_append, List.length_singleton] at hv'
    subst hv'
    exact h A' cap' w' hO (((Keep.refl _ w).alloc _).grown h2 fun k hk => .inl (by simpa using hk))
/-- append of one number, likewise. -/
theorem step_append_n {ops : Array Oper} {o : Oper} {a : Act} {K : Act → World → Prop} {Q : Exit → Act → World → Prop} {E : Prop} (hgd : o.guard = none) (s x : Operand)
    (ho : o.op = .call { callee := .builtin .append, args := #[s, x], argTypes := #[30, 30] }) {w : World} {B : Nat} {v : Value} {l : List Nat}
    (hs : a.eval s = v) (hown : OwnN w B v l) (t : Nat) (n : Nat) (hn : w.heap.size = n) (hx : a.eval x = .slice (some ⟨n, 0, none⟩) 1 1)
    (hlen : l.length ≤ 1000000000) (hB : B ≤ w.heap.size)
    (h : ∀ A' cap' w', OwnN w' B (.slice A' (l.length + 1) cap') (l ++ [t]) → Keep v.ownBlock.toList w w' → K (a.put o.dst (.slice A' (l.length + 1) cap')) w') :
    if Region.wanted o (yielded ops a.tmps) = true then Oper.wp Tryz.prog o a (w.alloc (.cells #[.int .i64 (t : Int)] 3)) K Q else E := by
  have hw : Region.wanted o (yielded ops a.tmps) = true := by simp [Region.wanted, hgd]
  rw [if_pos hw]
  obtain ⟨i0, hi, hz0, hz1, hz2⟩ := info_parts infoN
  subst hn
  refine wp_append_own _ s x 30 ho B 3 i0 _ 1 8 Tryz.underlying30 hi hz0 hz1 hz2 rfl (by decide) v l.length (l.map cellN) hs (World.ownsRow.alloc hown _) ⟨w.heap.size, 0, none⟩ 1 1 [.int .i64 (t : Int)] hx (by simp) (new_cellsU w _ rfl [.int .i64 (t : Int)] _) ?_ (by unfold maxLen; omega) (by omega) (by simp; omega) ?_
  · intro u hu
    simp only [List.mem_cons, List.mem_nil_iff, or_false] at hu
    rw [hu]
    rfl
  · intro v' w' h1 h2 _
    have hO : OwnN w' B v' (l ++ [t]) := by
      unfold OwnN
      rw [List.map_append, List.length_append, List.map_cons, List.map_nil]
      exact h1
    obtain ⟨A', cap', hv'⟩ := hO.form
    rw [List.length_append, List.length_singleton] at hv'
    subst hv'
    exact h A' cap' w' hO (((Keep.refl _ w).alloc _).grown h2 fun k hk => .inl (by simpa using hk))
end Go.Proofs.YtmfoiceofhcicaaGreatDoor
