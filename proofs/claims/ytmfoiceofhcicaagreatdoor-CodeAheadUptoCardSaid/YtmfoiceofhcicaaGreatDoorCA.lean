/- Walks: code.list: texts and instructions of bytes. -/
import Derived.Test.YtmfoiceofhcicaaGreatDoorKZ
namespace Go.Proofs.YtmfoiceofhcicaaGreatDoor
open Go.RowKit Go.IntWalk Go.Maps Go.WideMaps

theorem LW.pk {w w1 : World} {B mb xb lx rx g : Nat} {v : Value} {b : List UInt8} {k f : Nat} {pv : Value} {P : List ByteArray} {ov : Value} {ops : List OT} (h : LW w B mb xb lx rx g v b k f pv P ov ops) (hk : Keep pv.ownBlock.toList w w1) :
    Blk w1 xb 77 #[pv, ov, .map (some mb)] ∧ Blk w1 lx 72 #[.pointer (some ⟨xb, 0, none⟩)] ∧ Blk w1 rx 134 #[.pointer (some ⟨g, 0, none⟩)] := by
  have hblk : ∀ {t : TypeId} {cs : Array Value} {y : Nat}, Blk w y t cs → 9 ≠ t → Blk w1 y t cs := fun hy h1 => hy.keep hk fun hc => own_blk_ne h.pO hy h1 (by simpa using hc)
  exact ⟨hblk h.xB (by decide), hblk h.lB (by decide), hblk h.rB (by decide)⟩
theorem LW.cells {w : World} {B mb xb lx rx g : Nat} {v : Value} {b : List UInt8} {k f : Nat} {pv : Value} {P : List ByteArray} {ov : Value} {ops : List OT} (h : LW w B mb xb lx rx g v b k f pv P ov ops) :
    w.cell? ⟨lx, 0, none⟩ = some (.pointer (some ⟨xb, 0, none⟩)) ∧ w.cell? ⟨rx, 0, none⟩ = some (.pointer (some ⟨g, 0, none⟩)) ∧ w.frozen? ⟨xb, 0, none⟩ = false ∧ w.frozen? ⟨xb, 1, none⟩ = false ∧
    w.cell? ⟨xb, 0, none⟩ = some pv ∧ w.cell? ⟨xb, 1, none⟩ = some ov ∧ w.cell? ⟨xb, 2, none⟩ = some (.map (some mb)) :=
  ⟨h.lB.cell_eq rfl, h.rB.cell_eq rfl, h.xB.frozen 0, h.xB.frozen 1, h.xB.cell_eq rfl, h.xB.cell_eq rfl, h.xB.cell_eq rfl⟩
theorem Keep.set1 {a w : World} {o i : Nat} {u : Value} (h : Keep [o] a w) : Keep [o] a (w.setCell ⟨o, i, none⟩ u) := h.setCell (.inl (by simp)) u
theorem op10 {w : World} {o : Nat} {t : TypeId} {z0 z1 z2 z3 z4 z5 z6 z7 z8 z9 : Value} (u0 u1 u2 u3 u4 u5 u6 u7 u8 u9 : Value) (h : Blk w o t #[z0, z1, z2, z3, z4, z5, z6, z7, z8, z9]) :
    Blk ((((((((((w.setCell ⟨o, 0, none⟩ u0).setCell ⟨o, 1, none⟩ u1).setCell ⟨o, 2, none⟩ u2).setCell ⟨o, 3, none⟩ u3).setCell ⟨o, 4, none⟩ u4).setCell ⟨o, 5, none⟩ u5).setCell ⟨o, 6, none⟩ u6).setCell ⟨o, 7, none⟩ u7).setCell ⟨o, 8, none⟩ u8).setCell ⟨o, 9, none⟩ u9) o t #[u0, u1, u2, u3, u4, u5, u6, u7, u8, u9] := by
  have h2 := ((((((((((h.set_ 0 u0).set_ 1 u1).set_ 2 u2).set_ 3 u3).set_ 4 u4).set_ 5 u5).set_ 6 u6).set_ 7 u7).set_ 8 u8).set_ 9 u9)
  simpa using h2
theorem keep10 {w a : World} {bs : List Nat} {o : Nat} {u0 u1 u2 u3 u4 u5 u6 u7 u8 u9 : Value} (h : Keep bs a w) (ho : o ∈ bs ∨ a.heap.size ≤ o) : Keep bs a ((((((((((w.setCell ⟨o, 0, none⟩ u0).setCell ⟨o, 1, none⟩ u1).setCell ⟨o, 2, none⟩ u2).setCell ⟨o, 3, none⟩ u3).setCell ⟨o, 4, none⟩ u4).setCell ⟨o, 5, none⟩ u5).setCell ⟨o, 6, none⟩ u6).setCell ⟨o, 7, none⟩ u7).setCell ⟨o, 8, none⟩ u8).setCell ⟨o, 9, none⟩ u9) :=
  ((((((((((h.setCell (p := ⟨o, 0, none⟩) ho _).setCell (p := ⟨o, 1, none⟩) ho _).setCell (p := ⟨o, 2, none⟩) ho _).setCell (p := ⟨o, 3, none⟩) ho _).setCell (p := ⟨o, 4, none⟩) ho _).setCell (p := ⟨o, 5, none⟩) ho _).setCell (p := ⟨o, 6, none⟩) ho _).setCell (p := ⟨o, 7, none⟩) ho _).setCell (p := ⟨o, 8, none⟩) ho _).setCell (p := ⟨o, 9, none⟩) ho _)
theorem tk1B {b : List UInt8} {k : Nat} {c : UInt8} (h : b[k]? = some c) : tkB b k 0 1 = [c] := by
  have hk := (List.getElem?_eq_some_iff.1 h).1
  unfold tkB
  rw [if_pos ⟨rfl, by omega⟩, drop_some h]
  rfl
theorem tk1K {b : List UInt8} {k : Nat} (h : k + 1 ≤ b.length) : tkK b k 0 1 = k + 1 := by
  unfold tkK
  rw [if_pos ⟨rfl, h⟩]
theorem tk1F {b : List UInt8} {k : Nat} (h : k + 1 ≤ b.length) : tkF b k 0 1 = 0 := by
  unfold tkF
  rw [if_neg (by omega)]
theorem OwnU.one0 {w : World} {B : Nat} {v : Value} {c : UInt8} (h : OwnU w B v [c]) : ∃ b cap, v = .slice (some ⟨b, 0, none⟩) 1 cap ∧ b < w.heap.size ∧ w.cell? ⟨b, 0, none⟩ = some (.int .u8 c.toNat) := by
  have h' := h
  rcases h.2 with ⟨rfl, h0⟩ | ⟨g, cap, cur, rfl, _, hg, _⟩
  · simp at h0
  · exact ⟨g, cap, rfl, (Array.getElem?_eq_some_iff.1 hg).1, World.ownsRow.cellAt h' 0 (by simp)⟩
theorem zeroOp {w : World} {o : Nat} (h : Blk w o 36 #[.int .i64 0, .int .i64 0, .int .i64 0, .string ⟨#[]⟩, .string ⟨#[]⟩, .string ⟨#[]⟩, .string ⟨#[]⟩, .int .i64 0, .slice none 0 0, .slice none 0 0]) :
    w.cell? ⟨o, 0, none⟩ = some (.int .i64 0) ∧ w.cell? ⟨o, 1, none⟩ = some (.int .i64 0) ∧ w.cell? ⟨o, 2, none⟩ = some (.int .i64 0) ∧ w.cell? ⟨o, 3, none⟩ = some (.string ⟨#[]⟩) ∧ w.cell? ⟨o, 4, none⟩ = some (.string ⟨#[]⟩) ∧ w.cell? ⟨o, 5, none⟩ = some (.string ⟨#[]⟩) ∧ w.cell? ⟨o, 6, none⟩ = some (.string ⟨#[]⟩) ∧ w.cell? ⟨o, 7, none⟩ = some (.int .i64 0) ∧ w.cell? ⟨o, 8, none⟩ = some (.slice none 0 0) ∧ w.cell? ⟨o, 9, none⟩ = some (.slice none 0 0) ∧ w.frozen? ⟨o, 0, none⟩ = false ∧ w.frozen? ⟨o, 1, none⟩ = false ∧ w.frozen? ⟨o, 2, none⟩ = false ∧ w.frozen? ⟨o, 3, none⟩ = false ∧ w.frozen? ⟨o, 4, none⟩ = false ∧ w.frozen? ⟨o, 5, none⟩ = false ∧ w.frozen? ⟨o, 6, none⟩ = false ∧ w.frozen? ⟨o, 7, none⟩ = false ∧ w.frozen? ⟨o, 8, none⟩ = false ∧ w.frozen? ⟨o, 9, none⟩ = false :=
  ⟨h.cell_eq rfl, h.cell_eq rfl, h.cell_eq rfl, h.cell_eq rfl, h.cell_eq rfl, h.cell_eq rfl, h.cell_eq rfl, h.cell_eq rfl, h.cell_eq rfl, h.cell_eq rfl, h.frozen 0, h.frozen 1, h.frozen 2, h.frozen 3, h.frozen 4, h.frozen 5, h.frozen 6, h.frozen 7, h.frozen 8, h.frozen 9⟩
/-- The world within one instruction: its block, whether all is well, the reader. -/
structure PS (W : World) (B gx g ob : Nat) (v : Value) (b : List UInt8) (k f : Nat) (gd : Bool) (cs : Array Value) : Prop where
  ob : Blk W ob 36 cs
  gx : Blk W gx 4 #[.bool gd]
  rd : Rdr W g v b k f
  bO : OwnU W B v b
section
variable {W W' wa : World} {B gx g ob mb xb lx rx : Nat} {v pv ov : Value} {b : List UInt8} {k f k' f' k0 f0 : Nat} {gd gd' : Bool} {cs cs0 : Array Value} {P : List ByteArray} {ops : List OT}
theorem PS.go (h : PS W B gx g ob v b k f gd cs) (hk : Keep [g, gx] W W') (hr : Rdr W' g v b k' f') (hg : Blk W' gx 4 #[.bool gd']) : PS W' B gx g ob v b k' f' gd' cs :=
  ⟨h.ob.keep hk (fun hx => by
      simp only [List.mem_cons, List.mem_nil_iff, or_false] at hx
      rcases hx with hx | hx
      · exact h.ob.ne_ h.rd.blk (by decide) hx
      · exact h.ob.ne_ h.gx (by decide) hx), hg, hr, h.bO.keepR hk (fun x hx => by
      simp only [List.mem_cons, List.mem_nil_iff, or_false] at hx
      rcases hx with rfl | rfl
      · exact NoRow.blk h.rd.blk (by decide)
      · exact NoRow.blk h.gx (by decide))⟩
theorem PS.rdr (h : PS W B gx g ob v b k f gd cs) (hk : Keep [g] W W') (hr : Rdr W' g v b k' f') : PS W' B gx g ob v b k' f' gd cs :=
  h.go (hk.mono (fun x hx => .inl (by simp at hx; simp [hx]))) hr (h.gx.keep hk (by simpa using h.gx.ne_ h.rd.blk (by decide)))
theorem PS.nil (h : PS W B gx g ob v b k f gd cs) (hk : Keep [] W W') : PS W' B gx g ob v b k f gd cs := h.rdr (hk.mono (by simp)) (h.rd.keep hk)
theorem PS.set (h : PS W B gx g ob v b k f gd cs) (i : Nat) (u : Value) : PS (W.setCell ⟨ob, i, none⟩ u) B gx g ob v b k f gd (cs.setIfInBounds i u) := by
  have hk : Keep [ob] W (W.setCell ⟨ob, i, none⟩ u) := Keep.set1 (Keep.refl _ _)
  have hU := h.bO.keep hk (fun x hx hc => by
    simp at hc
    subst hc
    exact own_blk_ne h.bO h.ob (by decide) (by simpa using hx))
  exact ⟨h.ob.set_ i u, h.gx.keep hk (by simpa using h.gx.ne_ h.ob (by decide)), h.rd.keepO hU hk (by simpa using h.rd.blk.ne_ h.ob (by decide)), hU⟩
theorem ltext_ps (h : LW wa B mb xb lx rx g v b k0 f0 pv P ov ops) (hgx : Blk wa gx 4 cs0) (hk : Keep [g, gx] wa W) (hp : PS W B gx g ob v b k f gd cs) (hf : f ≤ 1000) (hP : P.length ≤ 1000000) (may : Bool) :
    Calls Tryz.prog 79 #[.bool may, .pointer (some ⟨rx, 0, none⟩), .pointer (some ⟨lx, 0, none⟩), .pointer (some ⟨gx, 0, none⟩)] W fun e w' =>
      e = .returned (.string (txt b P k f)) ∧ PS w' B gx g ob v b (tkK b k f 2) (tkF b k f 2) (gd && txg b P may k f) cs ∧ Keep [g, gx] W w' := by
  have hW := h.go hk (fun x hx => by
    simp only [List.mem_cons, List.mem_nil_iff, or_false] at hx
    rcases hx with rfl | rfl
    · exact .inl rfl
    · exact .inr ⟨_, hgx⟩) hp.rd
  refine (ltext_any W B rx lx gx g xb v pv ov (.map (some mb)) b P k f gd may hW.rB hW.lB hp.gx hW.xB hW.pO hP hp.rd hp.bO hf).mono ?_
  rintro e w' ⟨h1, h2, h3, h4⟩
  exact ⟨h1, hp.go h4 h3 h2, h4⟩
theorem u32_ps (hp : PS W B gx g ob v b k f gd cs) (hf : f ≤ 1000) :
    Calls Tryz.prog 76 #[.pointer (some ⟨g, 0, none⟩)] W fun e w' => e = .returned (.int .u32 (numU (tkB b k f 4) : Nat)) ∧ PS w' B gx g ob v b (tkK b k f 4) (tkF b k f 4) gd cs ∧ Keep [g, gx] W w' := by
  refine (ou32_any W g v b k f hf hp.rd).mono ?_
  rintro e w' ⟨h1, h2, h3⟩
  exact ⟨h1, hp.rdr h3 h2, h3.mono (fun x hx => .inl (by simp at hx; simp [hx]))⟩
theorem u16_ps (hp : PS W B gx g ob v b k f gd cs) (hf : f ≤ 1000) :
    Calls Tryz.prog 73 #[.pointer (some ⟨g, 0, none⟩)] W fun e w' => e = .returned (.int .u16 (numU (tkB b k f 2) : Nat)) ∧ PS w' B gx g ob v b (tkK b k f 2) (tkF b k f 2) gd cs ∧ Keep [g, gx] W w' := by
  refine (ou16_any W g v b k f hf hp.rd).mono ?_
  rintro e w' ⟨h1, h2, h3⟩
  exact ⟨h1, hp.rdr h3 h2, h3.mono (fun x hx => .inl (by simp at hx; simp [hx]))⟩
end
section
variable {W W' : World} {B gx g ob : Nat} {v : Value} {b : List UInt8} {k f : Nat} {gd : Bool} {cs : Array Value} {kv tv : Value} {ks : List ByteArray} {ts : List Nat}
theorem PS.rowS (h : PS W B gx g ob v b k f gd cs) (ho : OwnS W (ob + 1) kv ks) (hk : Keep kv.ownBlock.toList W W') : PS W' B gx g ob v b k f gd cs := by
  have hU := h.bO.keep hk (own_own_ne h.bO ho (by decide))
  exact ⟨h.ob.keep hk (fun hx => by have := (ho.lt ob hx).1; omega), h.gx.keep hk (fun hx => own_blk_ne ho h.gx (by decide) (by simpa using hx)), h.rd.keepO hU hk (fun hx => own_blk_ne ho h.rd.blk (by decide) (by simpa using hx)), hU⟩
theorem PS.rowN (h : PS W B gx g ob v b k f gd cs) (ho : OwnN W (ob + 1) tv ts) (hk : Keep tv.ownBlock.toList W W') : PS W' B gx g ob v b k f gd cs := by
  have hU := h.bO.keep hk (own_own_ne h.bO ho (by decide))
  exact ⟨h.ob.keep hk (fun hx => by have := (ho.lt ob hx).1; omega), h.gx.keep hk (fun hx => own_blk_ne ho h.gx (by decide) (by simpa using hx)), h.rd.keepO hU hk (fun hx => own_blk_ne ho h.rd.blk (by decide) (by simpa using hx)), hU⟩
theorem OwnS.setO (ho : OwnS W (ob + 1) kv ks) (i : Nat) (u : Value) : OwnS (W.setCell ⟨ob, i, none⟩ u) (ob + 1) kv ks := ho.keep (bs := [ob]) (Keep.set1 (Keep.refl _ _)) (fun x hx hc => by have := (ho.lt x hx).1; simp at hc; omega)
theorem OwnN.setO (ho : OwnN W (ob + 1) tv ts) (i : Nat) (u : Value) : OwnN (W.setCell ⟨ob, i, none⟩ u) (ob + 1) tv ts := ho.keep (bs := [ob]) (Keep.set1 (Keep.refl _ _)) (fun x hx hc => by have := (ho.lt x hx).1; simp at hc; omega)
theorem PS.norow (h : PS W B gx g ob v b k f gd cs) : ∀ x ∈ [g, gx], NoRow W x := fun x hx => by
  simp only [List.mem_cons, List.mem_nil_iff, or_false] at hx
  rcases hx with rfl | rfl
  · exact NoRow.blk h.rd.blk (by decide)
  · exact NoRow.blk h.gx (by decide)
end
theorem OwnN.one (w : World) (n : Nat) : OwnN (w.alloc (.cells #[.int .i64 (n : Int)] 3)) w.heap.size (.slice (some ⟨w.heap.size, 0, none⟩) 1 1) [n] :=
  ⟨rfl, .inr ⟨w.heap.size, 1, #[.int .i64 (n : Int)], rfl, Nat.le_refl _, heap_alloc_new w _, Nat.le_refl _, by simp [maxLen], rfl, rfl⟩⟩
/-- append of one instruction that lies in a block of its own, at a step of a region that draws its order. -/
theorem step_append_op2 {ops : Array Oper} {o : Oper} {a : Act} {K : Act → World → Prop} {Q : Exit → Act → World → Prop} {E : Prop} (hgd : o.guard = none) (s x : Operand)
    (ho : o.op = .call { callee := .builtin .append, args := #[s, x], argTypes := #[62, 62] }) {w : World} {B : Nat} {v : Value} {l : List OT}
    (hs : a.eval s = v) (hown : OwnO w B v l) (n : Nat) (p : OT) (u : Value × Value) (hX : Blk w n 36 (p.cells u).toArray) (hx : a.eval x = .slice (some ⟨n, 0, none⟩) 1 1) (hk1 : OwnS w B u.1 p.ks) (hk2 : OwnN w B u.2 p.ts)
    (hlen : l.length ≤ 1000000000) (hB : B ≤ w.heap.size)
    (h : ∀ A' cap' w', OwnO w' B (.slice A' (l.length + 1) cap') (l ++ [p]) → Keep v.ownBlock.toList w w' → K (a.put o.dst (.slice A' (l.length + 1) cap')) w') :
    if Region.wanted o (yielded ops a.tmps) = true then Oper.wp Tryz.prog o a w K Q else E := by
  have hw : Region.wanted o (yielded ops a.tmps) = true := by simp [Region.wanted, hgd]
  rw [if_pos hw]
  obtain ⟨i0, hi, hz0, hz1, hz2⟩ := info_parts infoO
  obtain ⟨us, h1, h2, h3⟩ := hown
  refine wp_append_own _ s x 62 ho B 36 i0 _ 10 144 Tryz.underlying62 hi hz0 hz1 hz2 rfl (by decide) v l.length (opC l us) hs h2 ⟨n, 0, none⟩ 1 1 (p.cells u) hx rfl (World.news_of_block hX) (op_ones hk1 hk2) (by unfold maxLen; omega) (by omega) hB ?_
  intro v' w' g1 g2 _
  have hk : Keep v.ownBlock.toList w w' := (Keep.refl _ w).grown g2 fun k hk => .inl (by simpa using hk)
  have hO : OwnO w' B v' (l ++ [p]) := op_more h1 h2 h3 hk1 hk2 g1 hk
  obtain ⟨A', cap', hv'⟩ := hO.form
  rw [List.length_append, List.length_singleton] at hv'
  subst hv'
  exact h A' cap' w' hO hk
theorem OwnO.ne {w : World} {B g : Nat} {v : Value} {l : List OT} {t : TypeId} {cs : Array Value} (h : OwnO w B v l) (hg : Blk w g t cs) (hne : 36 ≠ t) : g ∉ v.ownBlock.toList := by
  obtain ⟨us, e1, e2, e3⟩ := h
  exact fun hc => own_blk_ne e2 hg hne (by simpa using hc)
/-- What the last statements of a round read. -/
def S37 (lx xb ob : Nat) (o : OT) (u : Value × Value) (W : World) : Prop := W.cell? ⟨lx, 0, none⟩ = some (.pointer (some ⟨xb, 0, none⟩)) ∧ W.frozen? ⟨xb, 1, none⟩ = false ∧ W.cell? ⟨ob, 0, none⟩ = some (.int .i64 (o.at_ : Int)) ∧ W.cell? ⟨ob, 1, none⟩ = some (.int .i64 (o.nx : Int)) ∧ W.cell? ⟨ob, 2, none⟩ = some (.int .i64 (o.k : Int)) ∧ W.cell? ⟨ob, 3, none⟩ = some (.string o.tx) ∧ W.cell? ⟨ob, 4, none⟩ = some (.string o.nm) ∧ W.cell? ⟨ob, 5, none⟩ = some (.string o.ty) ∧ W.cell? ⟨ob, 6, none⟩ = some (.string o.st) ∧ W.cell? ⟨ob, 7, none⟩ = some (.int .i64 (o.off : Int)) ∧ W.cell? ⟨ob, 8, none⟩ = some (u.1) ∧ W.cell? ⟨ob, 9, none⟩ = some (u.2)
theorem s37 {lx xb ob : Nat} {o : OT} {u : Value × Value} {W : World} {cs : Array Value} (h1 : Blk W lx 72 #[.pointer (some ⟨xb, 0, none⟩)]) (h2 : Blk W xb 77 cs) (h3 : Blk W ob 36 (o.cells u).toArray) : S37 lx xb ob o u W :=
  ⟨h1.cell_eq rfl, h2.frozen 1, h3.cell_eq rfl, h3.cell_eq rfl, h3.cell_eq rfl, h3.cell_eq rfl, h3.cell_eq rfl, h3.cell_eq rfl, h3.cell_eq rfl, h3.cell_eq rfl, h3.cell_eq rfl, h3.cell_eq rfl⟩
set_option maxRecDepth 100000 in
set_option maxHeartbeats 40000000 in
theorem list_any (w : World) (v0 : Value) (b : List UInt8) (h : RdU w v0 b) (hl : b.length ≤ 1000000) :
    Calls Tryz.prog 52 #[v0] w (ListO b w) := by
  have hmm := @run_makeMap Tryz.prog
  have HR0 := Lib.hid h
  unfold ListO
  obtain ⟨LR, hLR⟩ : ∃ LR, listR b = LR := ⟨_, rfl⟩
  rw [hLR]
  have HLR := Lib.hid hLR
  clear h hLR
  go_enter Tryz.func52, Tryz.ntmps52
  go_upto_region 2 with fail
  have hx0 : Blk (((w.alloc (.map #[] 0)).alloc (.cells #[.slice none 0 0, .slice none 0 0, .map (some w.heap.size)] 77)).alloc (.cells #[.pointer (some ⟨w.heap.size + 1, 0, none⟩)] 72)) (w.heap.size + 1) 77 #[.slice none 0 0, .slice none 0 0, .map (some w.heap.size)] := (Blk.new' _ _ _ _ (by simp)).alloc _
  have hl0 : Blk (((w.alloc (.map #[] 0)).alloc (.cells #[.slice none 0 0, .slice none 0 0, .map (some w.heap.size)] 77)).alloc (.cells #[.pointer (some ⟨w.heap.size + 1, 0, none⟩)] 72)) (w.heap.size + 1 + 1) 72 #[.pointer (some ⟨w.heap.size + 1, 0, none⟩)] := Blk.new' _ _ _ _ (by simp)
  have hm0 : OwnMapN (((w.alloc (.map #[] 0)).alloc (.cells #[.slice none 0 0, .slice none 0 0, .map (some w.heap.size)] 77)).alloc (.cells #[.pointer (some ⟨w.heap.size + 1, 0, none⟩)] 72)) w.heap.size 0 (.map []) := OwnMapN.alloc (OwnMapN.alloc (World.ownsMap_made w Tryz.prog 3 (plainElem Tryz.prog 3)) _) _
  have hk0 : Keep [] w (((w.alloc (.map #[] 0)).alloc (.cells #[.slice none 0 0, .slice none 0 0, .map (some w.heap.size)] 77)).alloc (.cells #[.pointer (some ⟨w.heap.size + 1, 0, none⟩)] 72)) := (((Keep.refl [] w).alloc _).alloc _).alloc _
  generalize ((w.alloc (.map #[] 0)).alloc (.cells #[.slice none 0 0, .slice none 0 0, .map (some w.heap.size)] 77)).alloc (.cells #[.pointer (some ⟨w.heap.size + 1, 0, none⟩)] 72) = W0 at *
  obtain ⟨mb, hmb⟩ : ∃ mb, w.heap.size = mb := ⟨_, rfl⟩
  rw [hmb] at hx0 hl0 hm0 ⊢
  have HRD := Lib.hid (oread_any W0 v0 b (HR0.out.keep hk0) (by omega))
  have HX0 := Lib.hid hx0
  have HL0 := Lib.hid hl0
  have HM0 := Lib.hid hm0
  have HK0 := Lib.hid hk0
  have HMB := Lib.hid hmb
  have hz0 := hl0.lt
  clear hx0 hl0 hm0 hk0 hmb hmm
  go_upto_region 3 with (go_at_call 72; refine HRD.out.mono ?_; rintro e w1 ⟨g, v, rfl, hgl, hr1, hu1, hk1⟩; have HR1 := Lib.hid hr1; have HU1 := Lib.hid hu1; have HK1 := Lib.hid hk1; clear hr1 hu1 hk1)
  have hz1 := HK1.out.size
  have HGW : Hid (w.heap.size ≤ g) := by have := HK0.out.size; unfold Hid; omega
  have hW2 : LW (w1.alloc (.cells #[.pointer (some ⟨g, 0, none⟩)] 134)) mb mb (mb + 1) (mb + 1 + 1) w1.heap.size g v b 0 0 (.slice none 0 0) [] (.slice none 0 0) [] :=
    ⟨(HX0.out.keep HK1.out (by simp)).alloc _, (HL0.out.keep HK1.out (by simp)).alloc _, Blk.new _ _ _, OwnS.nil _ _, OwnO.nil _ _, (HM0.out.keep HK1.out (by simp)).alloc _, HR1.out.keep ((Keep.refl [] _).alloc _), (HU1.out.le (by omega)).alloc _, by simp; omega⟩
  have hK2 : Keep [] w (w1.alloc (.cells #[.pointer (some ⟨g, 0, none⟩)] 134)) := (HK0.out.nil HK1.out).alloc _
  obtain ⟨rx, hrx⟩ : ∃ rx, w1.heap.size = rx := ⟨_, rfl⟩
  rw [hrx] at hW2 ⊢
  generalize w1.alloc (.cells #[.pointer (some ⟨g, 0, none⟩)] 134) = W2 at *
  have r2 : W2.cell? ⟨rx, 0, none⟩ = some (.pointer (some ⟨g, 0, none⟩)) := hW2.rB.cell_eq rfl
  have HW2 := Lib.hid hW2
  have HK2 := Lib.hid hK2
  have HU2 := Lib.hid (ou16_any W2 g v b 0 0 (by omega) hW2.rd)
  have hn0 := num16_lt b 0 0
  have hkf1 : tkK b 0 0 2 ≤ b.length := tkK_le (Nat.zero_le _)
  have hff1 : tkF b 0 0 2 ≤ 1000 := tkF_le (by omega)
  obtain ⟨n0, hn0e⟩ : ∃ n0, numU (tkB b 0 0 2) = n0 := ⟨_, rfl⟩
  obtain ⟨k1, hk1e⟩ : ∃ k1, tkK b 0 0 2 = k1 := ⟨_, rfl⟩
  obtain ⟨f1, hf1e⟩ : ∃ f1, tkF b 0 0 2 = f1 := ⟨_, rfl⟩
  rw [hn0e, hk1e, hf1e] at HU2
  rw [hn0e] at hn0
  rw [hk1e] at hkf1
  rw [hf1e] at hff1
  obtain ⟨TP, hTP⟩ : ∃ TP, poolR b n0 [] (rdOf k1 f1) = TP := ⟨_, rfl⟩
  have HTP := Lib.hid hTP
  have HN0 := Lib.hid hn0e
  have HK1E := Lib.hid hk1e
  have HF1E := Lib.hid hf1e
  clear hW2 hK2 hTP hn0e hk1e hf1e hrx HRD HR0 HX0 HL0 HM0 HK0 HR1 HU1 HK1 hz0 hz1 hgl
  go_wp2_with (go_at_call 73; refine HU2.out.mono ?_; rintro e w3 ⟨rfl, hr3, hk3⟩; have HR3 := Lib.hid hr3; have HK3 := Lib.hid hk3; clear hr3 hk3 r2)
  go_loopw [6] (fun nv wr => ∃ (n k f : Nat) (acc : List ByteArray) (pv : Value), nv = .int .u16 n ∧ LW wr mb mb (mb + 1) (mb + 1 + 1) rx g v b k f pv acc (.slice none 0 0) [] ∧ f ≤ 1000 ∧ acc.length + n ≤ 65535 ∧ Keep [] w wr ∧ poolR b n acc (rdOf k f) = TP) (fun nv _ => (intOf nv).toNat)
  case atStart => exact ⟨n0, k1, f1, [], .slice none 0 0, rfl, HW2.out.go HK3.out (by simp) HR3.out, hff1, by simp; omega, HK2.out.trans HK3.out (fun x hx => .inr (by simp at hx; rw [hx]; exact HGW.out)), HTP.out⟩
  case round =>
    obtain ⟨n, k, f, acc, pv, rfl, hW, hf, hal, hK, hP⟩ := hrel
    have r0 : wr.cell? ⟨rx, 0, none⟩ = some (.pointer (some ⟨g, 0, none⟩)) := hW.rB.cell_eq rfl
    have HE := Lib.hid (oerr_any wr g v b k f hW.rd)
    have HW := Lib.hid hW
    have HK := Lib.hid hK
    have HP := Lib.hid hP
    clear hW hK hP
    obtain ⟨cb, hcb⟩ : ∃ cb, (decide (0 < n) && decide (f = 0)) = cb := ⟨_, rfl⟩
    have HCB := Lib.hid hcb
    clear hcb
    go_upto_region 4 with fail
    go_cut [26] (fun c W => c = .bool cb ∧ W = wr)
    case first =>
      by_cases hn : n = 0
      · subst hn
        go_wp2
        go_meet
        exact ⟨by rw [← HCB.out]; rfl, rfl⟩
      · by_cases hf0 : f = 0
        · subst hf0
          have hn' : (0 : Int) < (n : Int) := by omega
          have HN := Lib.hid hn
          clear hn
          go_wp2_with (go_at_call 74; refine HE.out.mono ?_; rintro e w5 ⟨rfl, rfl⟩)
          go_meet
          exact ⟨by rw [← HCB.out]; simp; have := HN.out; omega, rfl⟩
        · have hn' : (0 : Int) < (n : Int) := by omega
          have hf1 : ((f : Int) == 0) = false := by simp; omega
          have HN := Lib.hid hn
          have HF := Lib.hid hf0
          clear hn hf0
          go_wp2_with (go_at_call 74; refine HE.out.mono ?_; rintro e w5 ⟨rfl, rfl⟩)
          go_meet
          exact ⟨by rw [← HCB.out]; have := HF.out; simp [this], rfl⟩
    case rest =>
      obtain ⟨rfl, rfl⟩ := hcut
      cases cb with
      | true =>
        obtain ⟨hn1, hf1⟩ : 0 < n ∧ f = 0 := by have := HCB.out; simpa using this
        subst hf1
        obtain ⟨n', rfl⟩ : ∃ n', n = n' + 1 := ⟨n - 1, by omega⟩
        have hstep := HP.out
        rw [poolR_step HW.out.rd.le, if_neg (by simp)] at hstep
        have hn3l := num16_lt b k 0
        have hk3l : tkK b k 0 2 ≤ b.length := tkK_le HW.out.rd.le
        have hf3l : tkF b k 0 2 ≤ 1000 := tkF_le (by omega)
        have hU6 := ou16_any wc.drew g v b k 0 (by omega) (HW.out.nil (Keep.drew (Keep.refl [] _))).rd
        generalize numU (tkB b k 0 2) = n3 at *
        generalize tkK b k 0 2 = k3 at *
        generalize tkF b k 0 2 = f3 at *
        have hf4l : tkF b k3 f3 n3 ≤ 1000 := tkF_le hf3l
        obtain ⟨s, hs⟩ : ∃ s : ByteArray, ⟨(tkB b k3 f3 n3).toArray⟩ = s := ⟨_, rfl⟩
        rw [hs] at hstep
        obtain ⟨k4, hk4⟩ : ∃ k4, tkK b k3 f3 n3 = k4 := ⟨_, rfl⟩
        obtain ⟨f4, hf4⟩ : ∃ f4, tkF b k3 f3 n3 = f4 := ⟨_, rfl⟩
        rw [hk4, hf4] at hstep
        rw [hf4] at hf4l
        have HU6 := Lib.hid hU6
        have HSTEP := Lib.hid hstep
        have HS := Lib.hid hs
        have HK4 := Lib.hid hk4
        have HF4 := Lib.hid hf4
        obtain ⟨A, cap, rfl⟩ := HW.out.pO.form
        have HWd := Lib.hid (HW.out.nil (Keep.drew (Keep.refl [] _)))
        have hall : acc.length ≤ 1000000000 := by omega
        have l0 : wc.cell? ⟨mb + 1 + 1, 0, none⟩ = some (.pointer (some ⟨mb + 1, 0, none⟩)) := HW.out.lB.cell_eq rfl
        have x0 : wc.cell? ⟨mb + 1, 0, none⟩ = some (.slice A acc.length cap) := HW.out.xB.cell_eq rfl
        have z0 : wc.frozen? ⟨mb + 1, 0, none⟩ = false := HW.out.xB.frozen 0
        obtain ⟨zz, hzz⟩ : ∃ z : Int, ((n' + 1 : Nat) : Int) = z := ⟨_, rfl⟩
        rw [hzz]
        have HZZ := Lib.hid hzz
        have hz1 : IntKind.u16.wrap (zz - 1) = (n' : Int) := by rw [IntKind.wrap_u16]; omega
        have hz2 : (zz - 1) % 65536 = (n' : Int) := by omega
        have hw3 : IntKind.i64.wrap (n3 : Int) = (n3 : Int) := IntWalk.i64_in _ (by omega)
        clear hU6 hstep hs hk4 hf4 hzz
        go_upto_region 6 with fail
        (refine wp_region_noPanic ?_; refine wp_region_held_drew (S := (fun W => W.cell? ⟨mb + 1 + 1, 0, none⟩ = some (.pointer (some ⟨mb + 1, 0, none⟩)) ∧ W.cell? ⟨rx, 0, none⟩ = some (.pointer (some ⟨g, 0, none⟩)) ∧ W.frozen? ⟨mb + 1, 0, none⟩ = false)) (by kernel_rfl) ?_ (fun hHeld => ?_); (· (first | exact ⟨l0, r0, z0⟩ | exact ⟨l3, r3, z3⟩ | exact ⟨l4, r4, z4⟩ | exact ⟨l4a, r4a, z4a⟩ | exact ⟨l5, r5, z5⟩ | exact ⟨l6, r6, z6⟩)); refine wpAnyH_take (i := 0) (v := ?_) rfl (by kernel_rfl) (by kernel_rfl) (by kernel_rfl) (fun _ _ _ h => h) (Or.inl ⟨by rfl, ?_⟩) (by assumption) ?_; rotate_left; (· (intro w hSw; go_simp; try with_reducible rfl)); refine wpAnyH_take (i := 1) (v := ?_) rfl (by kernel_rfl) (by kernel_rfl) (by kernel_rfl) (fun _ _ _ h => h) (Or.inl ⟨by rfl, ?_⟩) (by assumption) ?_; rotate_left; (· (intro w hSw; go_simp; try with_reducible rfl)); refine wpAnyH_take (i := 2) (v := ?_) rfl (by kernel_rfl) (by kernel_rfl) (by kernel_rfl) (fun _ _ _ h => h) (Or.inl ⟨by rfl, ?_⟩) (by assumption) ?_; rotate_left; (· (intro w hSw; go_simp; try with_reducible rfl)); refine wpAnyH_take (i := 3) (v := ?_) rfl (by kernel_rfl) (by kernel_rfl) (by kernel_rfl) (fun _ _ _ h => h) (Or.inl ⟨by rfl, ?_⟩) (by assumption) ?_; rotate_left; (· (intro w hSw; go_simp; try with_reducible rfl)); refine wpAnyH_take (i := 5) (v := ?_) rfl (by kernel_rfl) (by kernel_rfl) (by kernel_rfl) (fun _ _ _ h => h) (Or.inl ⟨by rfl, ?_⟩) (by assumption) ?_; rotate_left; (· (intro w hSw; go_simp; try with_reducible rfl)); refine wpAnyH_take (i := 6) (v := ?_) rfl (by kernel_rfl) (by kernel_rfl) (by kernel_rfl) (fun _ _ _ h => h) (Or.inl ⟨by rfl, ?_⟩) (by assumption) ?_; rotate_left; (· (intro w hSw; go_simp; try with_reducible rfl)); refine wpAnyH_ready (rs := [4, 7]) (by kernel_rfl) (by simp) ?_; refine AllReadyH.cons rfl (fun K hK => ?_) ?_; go_simp; refine hK.out _ _ ?_ (fun hHeld => ?_); (· (first | exact ⟨l0, r0, z0⟩ | exact ⟨l3, r3, z3⟩ | exact ⟨l4, r4, z4⟩ | exact ⟨l4a, r4a, z4a⟩ | exact ⟨l5, r5, z5⟩ | exact ⟨l6, r6, z6⟩)); clear hK K; refine wpAnyH_ready (rs := [7]) (by kernel_rfl) (by simp) ?_; refine AllReadyH.cons rfl (fun K hK => ?_) ?_; go_simp; (first | (go_at_call 73; refine HU6.out.mono ?_; rintro e w3 ⟨rfl, hr3, hk3⟩; have hW3 := HWd.out.go hk3 (by simp) hr3; obtain ⟨l3, r3, z3, -, x3, -⟩ := hW3.cells; have HW3 := Lib.hid hW3; have HKK3 := Lib.hid hk3; have HRAW := Lib.hid (oraw_any w3 g v b k3 f3 n3 (by omega) hf3l hW3.rd); rw [HK4.out, HF4.out] at HRAW; clear hW3 hk3 hr3) | (go_at_call 75; refine HRAW.out.mono ?_; rintro e w4 ⟨v4, rfl, ho4, hr4, hk4⟩; have hW4 := HW3.out.go hk4 (by simp) hr4; have hcv := conv_text ho4.reads; rw [HS.out] at hcv; obtain ⟨l4, r4, z4, -, x4, -⟩ := hW4.cells; obtain ⟨l4a, r4a, z4a, -, x4a, -⟩ := (hW4.nil ((Keep.refl [] w4).alloc (.cells #[.string s] 9))).cells; have HW4 := Lib.hid hW4; have HKK4 := Lib.hid hk4; clear hW4 hk4 hr4) | fail); refine hK.out _ _ ?_ (fun hHeld => ?_); (· (first | exact ⟨l0, r0, z0⟩ | exact ⟨l3, r3, z3⟩ | exact ⟨l4, r4, z4⟩ | exact ⟨l4a, r4a, z4a⟩ | exact ⟨l5, r5, z5⟩ | exact ⟨l6, r6, z6⟩)); clear hK K; refine wpAnyH_take (i := 8) (v := ?_) rfl (by kernel_rfl) (by kernel_rfl) (by kernel_rfl) (fun _ _ _ h => h) (Or.inl ⟨by rfl, ?_⟩) (by assumption) ?_; rotate_left; (· (intro w hSw; go_simp; try with_reducible rfl)); refine wpAnyH_ready (rs := [9]) (by kernel_rfl) (by simp) ?_; refine AllReadyH.cons rfl (fun K hK => ?_) ?_; go_simp; (first | (go_at_call 73; refine HU6.out.mono ?_; rintro e w3 ⟨rfl, hr3, hk3⟩; have hW3 := HWd.out.go hk3 (by simp) hr3; obtain ⟨l3, r3, z3, -, x3, -⟩ := hW3.cells; have HW3 := Lib.hid hW3; have HKK3 := Lib.hid hk3; have HRAW := Lib.hid (oraw_any w3 g v b k3 f3 n3 (by omega) hf3l hW3.rd); rw [HK4.out, HF4.out] at HRAW; clear hW3 hk3 hr3) | (go_at_call 75; refine HRAW.out.mono ?_; rintro e w4 ⟨v4, rfl, ho4, hr4, hk4⟩; have hW4 := HW3.out.go hk4 (by simp) hr4; have hcv := conv_text ho4.reads; rw [HS.out] at hcv; obtain ⟨l4, r4, z4, -, x4, -⟩ := hW4.cells; obtain ⟨l4a, r4a, z4a, -, x4a, -⟩ := (hW4.nil ((Keep.refl [] w4).alloc (.cells #[.string s] 9))).cells; have HW4 := Lib.hid hW4; have HKK4 := Lib.hid hk4; clear hW4 hk4 hr4) | fail); refine hK.out _ _ ?_ (fun hHeld => ?_); (· (first | exact ⟨l0, r0, z0⟩ | exact ⟨l3, r3, z3⟩ | exact ⟨l4, r4, z4⟩ | exact ⟨l4a, r4a, z4a⟩ | exact ⟨l5, r5, z5⟩ | exact ⟨l6, r6, z6⟩)); clear hK K; refine wpAnyH_ready (rs := [10]) (by kernel_rfl) (by simp) ?_; refine AllReadyH.cons rfl (fun K hK => ?_) ?_; go_simp; refine hK.out _ _ ?_ (fun hHeld => ?_); (· (first | exact ⟨l0, r0, z0⟩ | exact ⟨l3, r3, z3⟩ | exact ⟨l4, r4, z4⟩ | exact ⟨l4a, r4a, z4a⟩ | exact ⟨l5, r5, z5⟩ | exact ⟨l6, r6, z6⟩)); clear hK K; refine wpAnyH_ready (rs := [11]) (by kernel_rfl) (by simp) ?_; refine AllReadyH.cons rfl (fun K hK => ?_) ?_; go_simp; refine hK.out _ _ ?_ (fun hHeld => ?_); (· (first | exact ⟨l0, r0, z0⟩ | exact ⟨l3, r3, z3⟩ | exact ⟨l4, r4, z4⟩ | exact ⟨l4a, r4a, z4a⟩ | exact ⟨l5, r5, z5⟩ | exact ⟨l6, r6, z6⟩)); clear hK K; refine wpAnyH_ready (rs := [12]) (by kernel_rfl) (by simp) ?_; refine AllReadyH.cons rfl (fun K hK => ?_) ?_; (first | (refine step_append_t (by rfl) _ _ (by rfl) (by rfl) HW4.out.pO s _ rfl (by rfl) hall HW4.out.le ?_; intro A5 cap5 w5 ho5 hk5; have hpk := HW4.out.pk hk5; have l5 : w5.cell? ⟨mb + 1 + 1, 0, none⟩ = some (.pointer (some ⟨mb + 1, 0, none⟩)) := hpk.2.1.cell_eq rfl; have r5 : w5.cell? ⟨rx, 0, none⟩ = some (.pointer (some ⟨g, 0, none⟩)) := hpk.2.2.cell_eq rfl; have z5 : w5.frozen? ⟨mb + 1, 0, none⟩ = false := hpk.1.frozen 0; have x5 : w5.cell? ⟨mb + 1, 0, none⟩ = some (.slice A acc.length cap) := hpk.1.cell_eq rfl; have hF := HW4.out.pool hk5 ho5; obtain ⟨l6, r6, z6, -⟩ := hF.1.cells; have HF := Lib.hid hF; clear hpk hF hk5 ho5) | fail); refine hK.out _ _ ?_ (fun hHeld => ?_); (· (first | exact ⟨l0, r0, z0⟩ | exact ⟨l3, r3, z3⟩ | exact ⟨l4, r4, z4⟩ | exact ⟨l4a, r4a, z4a⟩ | exact ⟨l5, r5, z5⟩ | exact ⟨l6, r6, z6⟩)); clear hK K; refine wpAnyH_take (i := 13) (v := ?_) rfl (by kernel_rfl) (by kernel_rfl) (by kernel_rfl) (fun _ _ _ h => h) (Or.inl ⟨by rfl, ?_⟩) (by assumption) ?_; rotate_left; (· (intro w hSw; go_simp; try with_reducible rfl)); refine wpAnyH_take (i := 14) (v := ?_) rfl (by kernel_rfl) (by kernel_rfl) (by kernel_rfl) (fun _ _ _ h => h) (Or.inl ⟨by rfl, ?_⟩) (by assumption) ?_; rotate_left; (· (intro w hSw; go_simp; try with_reducible rfl)); refine wpAnyH_ready (rs := [15]) (by kernel_rfl) (by simp) ?_; refine AllReadyH.cons rfl (fun K hK => ?_) ?_; go_simp; refine hK.out _ _ ?_ (fun hHeld => ?_); (· (first | exact ⟨l0, r0, z0⟩ | exact ⟨l3, r3, z3⟩ | exact ⟨l4, r4, z4⟩ | exact ⟨l4a, r4a, z4a⟩ | exact ⟨l5, r5, z5⟩ | exact ⟨l6, r6, z6⟩)); clear hK K; refine wpAnyH_done (by kernel_rfl) ?_ _; refine NoPanic.normal ?_; rotate_left; exact AllReadyH.nil; exact AllReadyH.nil; exact AllReadyH.nil; exact AllReadyH.nil; exact AllReadyH.nil; exact AllReadyH.nil; refine AllReadyH.cons rfl (fun K hK => ?_) ?_; go_simp; (first | (go_at_call 73; refine HU6.out.mono ?_; rintro e w3 ⟨rfl, hr3, hk3⟩; have hW3 := HWd.out.go hk3 (by simp) hr3; obtain ⟨l3, r3, z3, -, x3, -⟩ := hW3.cells; have HW3 := Lib.hid hW3; have HKK3 := Lib.hid hk3; have HRAW := Lib.hid (oraw_any w3 g v b k3 f3 n3 (by omega) hf3l hW3.rd); rw [HK4.out, HF4.out] at HRAW; clear hW3 hk3 hr3) | (go_at_call 75; refine HRAW.out.mono ?_; rintro e w4 ⟨v4, rfl, ho4, hr4, hk4⟩; have hW4 := HW3.out.go hk4 (by simp) hr4; have hcv := conv_text ho4.reads; rw [HS.out] at hcv; obtain ⟨l4, r4, z4, -, x4, -⟩ := hW4.cells; obtain ⟨l4a, r4a, z4a, -, x4a, -⟩ := (hW4.nil ((Keep.refl [] w4).alloc (.cells #[.string s] 9))).cells; have HW4 := Lib.hid hW4; have HKK4 := Lib.hid hk4; clear hW4 hk4 hr4) | fail); refine hK.out _ _ ?_ (fun hHeld => ?_); (· (first | exact ⟨l0, r0, z0⟩ | exact ⟨l3, r3, z3⟩ | exact ⟨l4, r4, z4⟩ | exact ⟨l4a, r4a, z4a⟩ | exact ⟨l5, r5, z5⟩ | exact ⟨l6, r6, z6⟩)); clear hK K; refine wpAnyH_take (i := 8) (v := ?_) rfl (by kernel_rfl) (by kernel_rfl) (by kernel_rfl) (fun _ _ _ h => h) (Or.inl ⟨by rfl, ?_⟩) (by assumption) ?_; rotate_left; (· (intro w hSw; go_simp; try with_reducible rfl)); refine wpAnyH_ready (rs := [4, 9]) (by kernel_rfl) (by simp) ?_; refine AllReadyH.cons rfl (fun K hK => ?_) ?_; go_simp; refine hK.out _ _ ?_ (fun hHeld => ?_); (· (first | exact ⟨l0, r0, z0⟩ | exact ⟨l3, r3, z3⟩ | exact ⟨l4, r4, z4⟩ | exact ⟨l4a, r4a, z4a⟩ | exact ⟨l5, r5, z5⟩ | exact ⟨l6, r6, z6⟩)); clear hK K; refine wpAnyH_ready (rs := [9]) (by kernel_rfl) (by simp) ?_; refine AllReadyH.cons rfl (fun K hK => ?_) ?_; go_simp; (first | (go_at_call 73; refine HU6.out.mono ?_; rintro e w3 ⟨rfl, hr3, hk3⟩; have hW3 := HWd.out.go hk3 (by simp) hr3; obtain ⟨l3, r3, z3, -, x3, -⟩ := hW3.cells; have HW3 := Lib.hid hW3; have HKK3 := Lib.hid hk3; have HRAW := Lib.hid (oraw_any w3 g v b k3 f3 n3 (by omega) hf3l hW3.rd); rw [HK4.out, HF4.out] at HRAW; clear hW3 hk3 hr3) | (go_at_call 75; refine HRAW.out.mono ?_; rintro e w4 ⟨v4, rfl, ho4, hr4, hk4⟩; have hW4 := HW3.out.go hk4 (by simp) hr4; have hcv := conv_text ho4.reads; rw [HS.out] at hcv; obtain ⟨l4, r4, z4, -, x4, -⟩ := hW4.cells; obtain ⟨l4a, r4a, z4a, -, x4a, -⟩ := (hW4.nil ((Keep.refl [] w4).alloc (.cells #[.string s] 9))).cells; have HW4 := Lib.hid hW4; have HKK4 := Lib.hid hk4; clear hW4 hk4 hr4) | fail); refine hK.out _ _ ?_ (fun hHeld => ?_); (· (first | exact ⟨l0, r0, z0⟩ | exact ⟨l3, r3, z3⟩ | exact ⟨l4, r4, z4⟩ | exact ⟨l4a, r4a, z4a⟩ | exact ⟨l5, r5, z5⟩ | exact ⟨l6, r6, z6⟩)); clear hK K; refine wpAnyH_ready (rs := [10]) (by kernel_rfl) (by simp) ?_; refine AllReadyH.cons rfl (fun K hK => ?_) ?_; go_simp; refine hK.out _ _ ?_ (fun hHeld => ?_); (· (first | exact ⟨l0, r0, z0⟩ | exact ⟨l3, r3, z3⟩ | exact ⟨l4, r4, z4⟩ | exact ⟨l4a, r4a, z4a⟩ | exact ⟨l5, r5, z5⟩ | exact ⟨l6, r6, z6⟩)); clear hK K; refine wpAnyH_ready (rs := [11]) (by kernel_rfl) (by simp) ?_; refine AllReadyH.cons rfl (fun K hK => ?_) ?_; go_simp; refine hK.out _ _ ?_ (fun hHeld => ?_); (· (first | exact ⟨l0, r0, z0⟩ | exact ⟨l3, r3, z3⟩ | exact ⟨l4, r4, z4⟩ | exact ⟨l4a, r4a, z4a⟩ | exact ⟨l5, r5, z5⟩ | exact ⟨l6, r6, z6⟩)); clear hK K; refine wpAnyH_ready (rs := [12]) (by kernel_rfl) (by simp) ?_; refine AllReadyH.cons rfl (fun K hK => ?_) ?_; (first | (refine step_append_t (by rfl) _ _ (by rfl) (by rfl) HW4.out.pO s _ rfl (by rfl) hall HW4.out.le ?_; intro A5 cap5 w5 ho5 hk5; have hpk := HW4.out.pk hk5; have l5 : w5.cell? ⟨mb + 1 + 1, 0, none⟩ = some (.pointer (some ⟨mb + 1, 0, none⟩)) := hpk.2.1.cell_eq rfl; have r5 : w5.cell? ⟨rx, 0, none⟩ = some (.pointer (some ⟨g, 0, none⟩)) := hpk.2.2.cell_eq rfl; have z5 : w5.frozen? ⟨mb + 1, 0, none⟩ = false := hpk.1.frozen 0; have x5 : w5.cell? ⟨mb + 1, 0, none⟩ = some (.slice A acc.length cap) := hpk.1.cell_eq rfl; have hF := HW4.out.pool hk5 ho5; obtain ⟨l6, r6, z6, -⟩ := hF.1.cells; have HF := Lib.hid hF; clear hpk hF hk5 ho5) | fail); refine hK.out _ _ ?_ (fun hHeld => ?_); (· (first | exact ⟨l0, r0, z0⟩ | exact ⟨l3, r3, z3⟩ | exact ⟨l4, r4, z4⟩ | exact ⟨l4a, r4a, z4a⟩ | exact ⟨l5, r5, z5⟩ | exact ⟨l6, r6, z6⟩)); clear hK K; refine wpAnyH_take (i := 13) (v := ?_) rfl (by kernel_rfl) (by kernel_rfl) (by kernel_rfl) (fun _ _ _ h => h) (Or.inl ⟨by rfl, ?_⟩) (by assumption) ?_; rotate_left; (· (intro w hSw; go_simp; try with_reducible rfl)); refine wpAnyH_take (i := 14) (v := ?_) rfl (by kernel_rfl) (by kernel_rfl) (by kernel_rfl) (fun _ _ _ h => h) (Or.inl ⟨by rfl, ?_⟩) (by assumption) ?_; rotate_left; (· (intro w hSw; go_simp; try with_reducible rfl)); refine wpAnyH_ready (rs := [15]) (by kernel_rfl) (by simp) ?_; refine AllReadyH.cons rfl (fun K hK => ?_) ?_; go_simp; refine hK.out _ _ ?_ (fun hHeld => ?_); (· (first | exact ⟨l0, r0, z0⟩ | exact ⟨l3, r3, z3⟩ | exact ⟨l4, r4, z4⟩ | exact ⟨l4a, r4a, z4a⟩ | exact ⟨l5, r5, z5⟩ | exact ⟨l6, r6, z6⟩)); clear hK K; refine wpAnyH_done (by kernel_rfl) ?_ _; refine NoPanic.normal ?_; rotate_left; exact AllReadyH.nil; exact AllReadyH.nil; exact AllReadyH.nil; exact AllReadyH.nil; exact AllReadyH.nil; refine AllReadyH.cons rfl (fun K hK => ?_) ?_; go_simp; (first | (go_at_call 73; refine HU6.out.mono ?_; rintro e w3 ⟨rfl, hr3, hk3⟩; have hW3 := HWd.out.go hk3 (by simp) hr3; obtain ⟨l3, r3, z3, -, x3, -⟩ := hW3.cells; have HW3 := Lib.hid hW3; have HKK3 := Lib.hid hk3; have HRAW := Lib.hid (oraw_any w3 g v b k3 f3 n3 (by omega) hf3l hW3.rd); rw [HK4.out, HF4.out] at HRAW; clear hW3 hk3 hr3) | (go_at_call 75; refine HRAW.out.mono ?_; rintro e w4 ⟨v4, rfl, ho4, hr4, hk4⟩; have hW4 := HW3.out.go hk4 (by simp) hr4; have hcv := conv_text ho4.reads; rw [HS.out] at hcv; obtain ⟨l4, r4, z4, -, x4, -⟩ := hW4.cells; obtain ⟨l4a, r4a, z4a, -, x4a, -⟩ := (hW4.nil ((Keep.refl [] w4).alloc (.cells #[.string s] 9))).cells; have HW4 := Lib.hid hW4; have HKK4 := Lib.hid hk4; clear hW4 hk4 hr4) | fail); refine hK.out _ _ ?_ (fun hHeld => ?_); (· (first | exact ⟨l0, r0, z0⟩ | exact ⟨l3, r3, z3⟩ | exact ⟨l4, r4, z4⟩ | exact ⟨l4a, r4a, z4a⟩ | exact ⟨l5, r5, z5⟩ | exact ⟨l6, r6, z6⟩)); clear hK K; refine wpAnyH_ready (rs := [4, 10]) (by kernel_rfl) (by simp) ?_; refine AllReadyH.cons rfl (fun K hK => ?_) ?_; go_simp; refine hK.out _ _ ?_ (fun hHeld => ?_); (· (first | exact ⟨l0, r0, z0⟩ | exact ⟨l3, r3, z3⟩ | exact ⟨l4, r4, z4⟩ | exact ⟨l4a, r4a, z4a⟩ | exact ⟨l5, r5, z5⟩ | exact ⟨l6, r6, z6⟩)); clear hK K; refine wpAnyH_ready (rs := [10]) (by kernel_rfl) (by simp) ?_; refine AllReadyH.cons rfl (fun K hK => ?_) ?_; go_simp; refine hK.out _ _ ?_ (fun hHeld => ?_); (· (first | exact ⟨l0, r0, z0⟩ | exact ⟨l3, r3, z3⟩ | exact ⟨l4, r4, z4⟩ | exact ⟨l4a, r4a, z4a⟩ | exact ⟨l5, r5, z5⟩ | exact ⟨l6, r6, z6⟩)); clear hK K; refine wpAnyH_ready (rs := [11]) (by kernel_rfl) (by simp) ?_; refine AllReadyH.cons rfl (fun K hK => ?_) ?_; go_simp; refine hK.out _ _ ?_ (fun hHeld => ?_); (· (first | exact ⟨l0, r0, z0⟩ | exact ⟨l3, r3, z3⟩ | exact ⟨l4, r4, z4⟩ | exact ⟨l4a, r4a, z4a⟩ | exact ⟨l5, r5, z5⟩ | exact ⟨l6, r6, z6⟩)); clear hK K; refine wpAnyH_ready (rs := [12]) (by kernel_rfl) (by simp) ?_; refine AllReadyH.cons rfl (fun K hK => ?_) ?_; (first | (refine step_append_t (by rfl) _ _ (by rfl) (by rfl) HW4.out.pO s _ rfl (by rfl) hall HW4.out.le ?_; intro A5 cap5 w5 ho5 hk5; have hpk := HW4.out.pk hk5; have l5 : w5.cell? ⟨mb + 1 + 1, 0, none⟩ = some (.pointer (some ⟨mb + 1, 0, none⟩)) := hpk.2.1.cell_eq rfl; have r5 : w5.cell? ⟨rx, 0, none⟩ = some (.pointer (some ⟨g, 0, none⟩)) := hpk.2.2.cell_eq rfl; have z5 : w5.frozen? ⟨mb + 1, 0, none⟩ = false := hpk.1.frozen 0; have x5 : w5.cell? ⟨mb + 1, 0, none⟩ = some (.slice A acc.length cap) := hpk.1.cell_eq rfl; have hF := HW4.out.pool hk5 ho5; obtain ⟨l6, r6, z6, -⟩ := hF.1.cells; have HF := Lib.hid hF; clear hpk hF hk5 ho5) | fail); refine hK.out _ _ ?_ (fun hHeld => ?_); (· (first | exact ⟨l0, r0, z0⟩ | exact ⟨l3, r3, z3⟩ | exact ⟨l4, r4, z4⟩ | exact ⟨l4a, r4a, z4a⟩ | exact ⟨l5, r5, z5⟩ | exact ⟨l6, r6, z6⟩)); clear hK K; refine wpAnyH_take (i := 13) (v := ?_) rfl (by kernel_rfl) (by kernel_rfl) (by kernel_rfl) (fun _ _ _ h => h) (Or.inl ⟨by rfl, ?_⟩) (by assumption) ?_; rotate_left; (· (intro w hSw; go_simp; try with_reducible rfl)); refine wpAnyH_take (i := 14) (v := ?_) rfl (by kernel_rfl) (by kernel_rfl) (by kernel_rfl) (fun _ _ _ h => h) (Or.inl ⟨by rfl, ?_⟩) (by assumption) ?_; rotate_left; (· (intro w hSw; go_simp; try with_reducible rfl)); refine wpAnyH_ready (rs := [15]) (by kernel_rfl) (by simp) ?_; refine AllReadyH.cons rfl (fun K hK => ?_) ?_; go_simp; refine hK.out _ _ ?_ (fun hHeld => ?_); (· (first | exact ⟨l0, r0, z0⟩ | exact ⟨l3, r3, z3⟩ | exact ⟨l4, r4, z4⟩ | exact ⟨l4a, r4a, z4a⟩ | exact ⟨l5, r5, z5⟩ | exact ⟨l6, r6, z6⟩)); clear hK K; refine wpAnyH_done (by kernel_rfl) ?_ _; refine NoPanic.normal ?_; rotate_left; exact AllReadyH.nil; exact AllReadyH.nil; exact AllReadyH.nil; exact AllReadyH.nil; refine AllReadyH.cons rfl (fun K hK => ?_) ?_; go_simp; refine hK.out _ _ ?_ (fun hHeld => ?_); (· (first | exact ⟨l0, r0, z0⟩ | exact ⟨l3, r3, z3⟩ | exact ⟨l4, r4, z4⟩ | exact ⟨l4a, r4a, z4a⟩ | exact ⟨l5, r5, z5⟩ | exact ⟨l6, r6, z6⟩)); clear hK K; refine wpAnyH_ready (rs := [4, 11]) (by kernel_rfl) (by simp) ?_; refine AllReadyH.cons rfl (fun K hK => ?_) ?_; go_simp; refine hK.out _ _ ?_ (fun hHeld => ?_); (· (first | exact ⟨l0, r0, z0⟩ | exact ⟨l3, r3, z3⟩ | exact ⟨l4, r4, z4⟩ | exact ⟨l4a, r4a, z4a⟩ | exact ⟨l5, r5, z5⟩ | exact ⟨l6, r6, z6⟩)); clear hK K; refine wpAnyH_ready (rs := [11]) (by kernel_rfl) (by simp) ?_; refine AllReadyH.cons rfl (fun K hK => ?_) ?_; go_simp; refine hK.out _ _ ?_ (fun hHeld => ?_); (· (first | exact ⟨l0, r0, z0⟩ | exact ⟨l3, r3, z3⟩ | exact ⟨l4, r4, z4⟩ | exact ⟨l4a, r4a, z4a⟩ | exact ⟨l5, r5, z5⟩ | exact ⟨l6, r6, z6⟩)); clear hK K; refine wpAnyH_ready (rs := [12]) (by kernel_rfl) (by simp) ?_; refine AllReadyH.cons rfl (fun K hK => ?_) ?_; (first | (refine step_append_t (by rfl) _ _ (by rfl) (by rfl) HW4.out.pO s _ rfl (by rfl) hall HW4.out.le ?_; intro A5 cap5 w5 ho5 hk5; have hpk := HW4.out.pk hk5; have l5 : w5.cell? ⟨mb + 1 + 1, 0, none⟩ = some (.pointer (some ⟨mb + 1, 0, none⟩)) := hpk.2.1.cell_eq rfl; have r5 : w5.cell? ⟨rx, 0, none⟩ = some (.pointer (some ⟨g, 0, none⟩)) := hpk.2.2.cell_eq rfl; have z5 : w5.frozen? ⟨mb + 1, 0, none⟩ = false := hpk.1.frozen 0; have x5 : w5.cell? ⟨mb + 1, 0, none⟩ = some (.slice A acc.length cap) := hpk.1.cell_eq rfl; have hF := HW4.out.pool hk5 ho5; obtain ⟨l6, r6, z6, -⟩ := hF.1.cells; have HF := Lib.hid hF; clear hpk hF hk5 ho5) | fail); refine hK.out _ _ ?_ (fun hHeld => ?_); (· (first | exact ⟨l0, r0, z0⟩ | exact ⟨l3, r3, z3⟩ | exact ⟨l4, r4, z4⟩ | exact ⟨l4a, r4a, z4a⟩ | exact ⟨l5, r5, z5⟩ | exact ⟨l6, r6, z6⟩)); clear hK K; refine wpAnyH_take (i := 13) (v := ?_) rfl (by kernel_rfl) (by kernel_rfl) (by kernel_rfl) (fun _ _ _ h => h) (Or.inl ⟨by rfl, ?_⟩) (by assumption) ?_; rotate_left; (· (intro w hSw; go_simp; try with_reducible rfl)); refine wpAnyH_take (i := 14) (v := ?_) rfl (by kernel_rfl) (by kernel_rfl) (by kernel_rfl) (fun _ _ _ h => h) (Or.inl ⟨by rfl, ?_⟩) (by assumption) ?_; rotate_left; (· (intro w hSw; go_simp; try with_reducible rfl)); refine wpAnyH_ready (rs := [15]) (by kernel_rfl) (by simp) ?_; refine AllReadyH.cons rfl (fun K hK => ?_) ?_; go_simp; refine hK.out _ _ ?_ (fun hHeld => ?_); (· (first | exact ⟨l0, r0, z0⟩ | exact ⟨l3, r3, z3⟩ | exact ⟨l4, r4, z4⟩ | exact ⟨l4a, r4a, z4a⟩ | exact ⟨l5, r5, z5⟩ | exact ⟨l6, r6, z6⟩)); clear hK K; refine wpAnyH_done (by kernel_rfl) ?_ _; refine NoPanic.normal ?_; rotate_left; exact AllReadyH.nil; exact AllReadyH.nil; exact AllReadyH.nil; refine AllReadyH.cons rfl (fun K hK => ?_) ?_; go_simp; refine hK.out _ _ ?_ (fun hHeld => ?_); (· (first | exact ⟨l0, r0, z0⟩ | exact ⟨l3, r3, z3⟩ | exact ⟨l4, r4, z4⟩ | exact ⟨l4a, r4a, z4a⟩ | exact ⟨l5, r5, z5⟩ | exact ⟨l6, r6, z6⟩)); clear hK K; refine wpAnyH_ready (rs := [4]) (by kernel_rfl) (by simp) ?_; refine AllReadyH.cons rfl (fun K hK => ?_) ?_; go_simp; refine hK.out _ _ ?_ (fun hHeld => ?_); (· (first | exact ⟨l0, r0, z0⟩ | exact ⟨l3, r3, z3⟩ | exact ⟨l4, r4, z4⟩ | exact ⟨l4a, r4a, z4a⟩ | exact ⟨l5, r5, z5⟩ | exact ⟨l6, r6, z6⟩)); clear hK K; refine wpAnyH_ready (rs := [12]) (by kernel_rfl) (by simp) ?_; refine AllReadyH.cons rfl (fun K hK => ?_) ?_; (first | (refine step_append_t (by rfl) _ _ (by rfl) (by rfl) HW4.out.pO s _ rfl (by rfl) hall HW4.out.le ?_; intro A5 cap5 w5 ho5 hk5; have hpk := HW4.out.pk hk5; have l5 : w5.cell? ⟨mb + 1 + 1, 0, none⟩ = some (.pointer (some ⟨mb + 1, 0, none⟩)) := hpk.2.1.cell_eq rfl; have r5 : w5.cell? ⟨rx, 0, none⟩ = some (.pointer (some ⟨g, 0, none⟩)) := hpk.2.2.cell_eq rfl; have z5 : w5.frozen? ⟨mb + 1, 0, none⟩ = false := hpk.1.frozen 0; have x5 : w5.cell? ⟨mb + 1, 0, none⟩ = some (.slice A acc.length cap) := hpk.1.cell_eq rfl; have hF := HW4.out.pool hk5 ho5; obtain ⟨l6, r6, z6, -⟩ := hF.1.cells; have HF := Lib.hid hF; clear hpk hF hk5 ho5) | fail); refine hK.out _ _ ?_ (fun hHeld => ?_); (· (first | exact ⟨l0, r0, z0⟩ | exact ⟨l3, r3, z3⟩ | exact ⟨l4, r4, z4⟩ | exact ⟨l4a, r4a, z4a⟩ | exact ⟨l5, r5, z5⟩ | exact ⟨l6, r6, z6⟩)); clear hK K; refine wpAnyH_take (i := 13) (v := ?_) rfl (by kernel_rfl) (by kernel_rfl) (by kernel_rfl) (fun _ _ _ h => h) (Or.inl ⟨by rfl, ?_⟩) (by assumption) ?_; rotate_left; (· (intro w hSw; go_simp; try with_reducible rfl)); refine wpAnyH_take (i := 14) (v := ?_) rfl (by kernel_rfl) (by kernel_rfl) (by kernel_rfl) (fun _ _ _ h => h) (Or.inl ⟨by rfl, ?_⟩) (by assumption) ?_; rotate_left; (· (intro w hSw; go_simp; try with_reducible rfl)); refine wpAnyH_ready (rs := [15]) (by kernel_rfl) (by simp) ?_; refine AllReadyH.cons rfl (fun K hK => ?_) ?_; go_simp; refine hK.out _ _ ?_ (fun hHeld => ?_); (· (first | exact ⟨l0, r0, z0⟩ | exact ⟨l3, r3, z3⟩ | exact ⟨l4, r4, z4⟩ | exact ⟨l4a, r4a, z4a⟩ | exact ⟨l5, r5, z5⟩ | exact ⟨l6, r6, z6⟩)); clear hK K; refine wpAnyH_done (by kernel_rfl) ?_ _; refine NoPanic.normal ?_; rotate_left; exact AllReadyH.nil; exact AllReadyH.nil; exact AllReadyH.nil; exact AllReadyH.nil; exact AllReadyH.nil; exact AllReadyH.nil; exact AllReadyH.nil)
        all_goals
          go_wp2
          have hzz := HZZ.out
          subst hzz
          go_roundw
          case rel => exact ⟨n', k4, f4, acc ++ [s], _, by go_num, HF.out.1, hf4l, by simp; omega, (((HK.out.drew).trans HKK3.out (fun x hx => .inr (by simp at hx; rw [hx]; exact HGW.out))).trans HKK4.out (fun x hx => .inr (by simp at hx; rw [hx]; exact HGW.out))).trans HF.out.2 (fun x hx => .inr (by
            rcases List.mem_cons.1 hx with hx | hx
            · have := HMB.out; omega
            · have := (HW.out.pO.lt x hx).1; have := HMB.out; omega)), HSTEP.out⟩
          case measure => first | (simp [intOf]; done) | (simp [intOf]; omega)
      | false =>
        have hTP : TP = (acc, rdOf k f) := by
          have hc := HCB.out
          rw [← HP.out]
          cases n with
          | zero => rfl
          | succ n' => rw [poolR_step HW.out.rd.le, if_pos (by simpa using hc)]
        have hPl : acc.length ≤ 65535 := by omega
        have hkl := HW.out.rd.le
        have hU7 := ou32_any wc g v b k f hf HW.out.rd
        have hn4 := num32_lt b k f
        have hk5 : tkK b k f 4 ≤ b.length := tkK_le hkl
        have hf5 : tkF b k f 4 ≤ 1000 := tkF_le hf
        have hLR := listR_eq (P := acc) HK1E.out HF1E.out (by rw [HN0.out, HTP.out, hTP]) hkl rfl rfl
        rw [HLR.out] at hLR
        generalize numU (tkB b k f 4) = sz at *
        generalize tkK b k f 4 = k5 at *
        generalize tkF b k f 4 = f5 at *
        have HU7 := Lib.hid hU7
        have hws : IntKind.i64.wrap (sz : Int) = (sz : Int) := IntWalk.i64_in _ (by omega)
        clear hU7 hTP HTP HN0 HK1E HF1E HU2 HR3 HK3 HW2 HK2 HCB HP HE HLR
        by_cases h5 : f5 = 0
        · subst h5
          obtain ⟨LN, hLN⟩ : ∃ LN, b.length - k5 = LN := ⟨_, rfl⟩
          rw [hLN] at hLR
          by_cases hsz : sz = LN
          · subst hsz
            rw [if_neg (by simp)] at hLR
            obtain ⟨TO, hTO⟩ : ∃ TO, opsR b acc k5 (b.length + 1 - k5) [] k5 = TO := ⟨_, rfl⟩
            rw [hTO] at hLR
            have HLR := Lib.hid hLR
            have HTO := Lib.hid hTO
            have HLN := Lib.hid hLN
            have hmf : ∀ (fn : Fn) (first cap : Array Value) (w : World), (Instr.makeFunc fn first cap).run Tryz.prog w = .ok (.func fn first cap) w := fun _ _ _ _ => rfl
            clear hLR hTO
            go_upto_region 12 with (first
              | (go_at_call 76; refine HU7.out.mono ?_; rintro e w3 ⟨rfl, hr3, hk3⟩; have hW3 := HW.out.go hk3 (by simp) hr3; obtain ⟨-, r3, -⟩ := hW3.cells; have HW3 := Lib.hid hW3; have HKK3 := Lib.hid hk3; have HE3 := Lib.hid (oerr_any w3 g v b k5 0 hr3); have HL3 := Lib.hid (oleft_any w3 g v b k5 0 hr3); rw [HLN.out] at HL3; clear hW3 hk3 hr3)
              | (go_at_call 74; refine HE3.out.mono ?_; rintro e w4 ⟨rfl, rfl⟩)
              | (go_at_call 77; refine HL3.out.mono ?_; rintro e w4 ⟨rfl, hk4⟩; have hW4 := HW3.out.nil hk4; obtain ⟨-, r4, -⟩ := hW4.cells; have HW4 := Lib.hid hW4; have HKK4 := Lib.hid hk4; have HA4 := Lib.hid (oat_any w4 g v b k5 0 hW4.rd); clear hW4 hk4)
              | (go_at_call 78; refine HA4.out.mono ?_; rintro e w5 ⟨rfl, rfl⟩))
            have hW5 := HW4.out.nil ((Keep.refl [] w4).alloc (.cells #[.bool true] 4))
            have hG5 : Blk (w4.alloc (.cells #[.bool true] 4)) w4.heap.size 4 #[.bool true] := Blk.new _ _ _
            have hK5 : Keep [] w (w4.alloc (.cells #[.bool true] 4)) := ((HK.out.trans HKK3.out (fun x hx => .inr (by simp at hx; rw [hx]; exact HGW.out))).nil HKK4.out).alloc _
            have HGXW : Hid (w.heap.size ≤ w4.heap.size) := ((HK.out.trans HKK3.out (fun x hx => .inr (by simp at hx; rw [hx]; exact HGW.out))).nil HKK4.out).size
            generalize w4.alloc (.cells #[.bool true] 4) = W5 at *
            obtain ⟨gx, hgx⟩ : ∃ gx, w4.heap.size = gx := ⟨_, rfl⟩
            rw [hgx] at hG5 HGXW ⊢
            have HW5 := Lib.hid hW5
            have HG5 := Lib.hid hG5
            have HK5 := Lib.hid hK5
            clear hW5 hG5 hK5 HW HK HKK3 HKK4 HW3 HW4 HE3 HL3 HA4 HU7 hgx r0 r3 r4
            go_wp2
            go_loopw [] (fun wr => ∃ (ops : List OT) (F kk ff : Nat) (gd : Bool) (ov : Value), LW wr mb mb (mb + 1) (mb + 1 + 1) rx g v b kk ff pv acc ov ops ∧ Blk wr gx 4 #[.bool gd] ∧ ff ≤ 1000 ∧ ops.length ≤ kk ∧ b.length + 1 - kk ≤ F ∧ k5 ≤ kk ∧ Keep [] w wr ∧ (if (gd && ff == 0) = true then opsR b acc k5 F ops kk else none) = TO) (fun wr => b.length - (intOf ((wr.cell? ⟨g, 1, none⟩).getD undef)).toNat)
            case atStart => exact ⟨[], b.length + 1 - k5, k5, 0, true, .slice none 0 0, HW5.out, HG5.out, by omega, by simp, Nat.le_refl _, Nat.le_refl _, HK5.out, by simpa using HTO.out⟩
            case round =>
              obtain ⟨ops, F, kk, ff, gd, ov, hW, hG, hff, hol, hF, hkk, hK, hrel⟩ := hrel
              have r0 : wr.cell? ⟨rx, 0, none⟩ = some (.pointer (some ⟨g, 0, none⟩)) := hW.rB.cell_eq rfl
              have hkl := hW.rd.le
              have HMW : Hid (wr.cell? ⟨g, 1, none⟩ = some (.int .i64 (kk : Int))) := hW.rd.blk.cell_eq rfl
              obtain ⟨LK, hLK⟩ : ∃ LK, b.length - kk = LK := ⟨_, rfl⟩
              have hLf := oleft_any wr g v b kk ff hW.rd
              rw [hLK] at hLf
              have HLf := Lib.hid hLf
              have HW := Lib.hid hW
              have HG := Lib.hid hG
              have HK := Lib.hid hK
              have HREL := Lib.hid hrel
              clear hW hG hK hrel hLf
              obtain ⟨cb, hcb⟩ : ∃ cb, (decide (0 < LK) && gd && decide (ff = 0)) = cb := ⟨_, rfl⟩
              have HCB := Lib.hid hcb
              have HLK := Lib.hid hLK
              clear hcb hLK
              go_upto_region 13 with fail
              go_cut [69] (fun c W => c = .bool cb ∧ Keep [] wr W)
              case first =>
                by_cases h0 : LK = 0
                · subst h0
                  go_wp2_with (go_at_call 77; refine HLf.out.mono ?_; rintro e w3 ⟨rfl, hk3⟩; have HKK3 := Lib.hid hk3; clear hk3)
                  go_meet
                  exact ⟨by rw [← HCB.out]; simp, HKK3.out⟩
                · have h0' : (0 : Int) < (LK : Int) := by omega
                  have H0 := Lib.hid h0
                  clear h0
                  cases gd with
                  | false =>
                    go_wp2_with (go_at_call 77; refine HLf.out.mono ?_; rintro e w3 ⟨rfl, hk3⟩; have g3 : w3.cell? ⟨gx, 0, none⟩ = some (.bool false) := (HG.out.keep hk3 (by simp)).cell_eq rfl; have HKK3 := Lib.hid hk3; clear hk3)
                    go_meet
                    exact ⟨by rw [← HCB.out]; simp, HKK3.out⟩
                  | true =>
                    by_cases hf0 : ff = 0
                    · subst hf0
                      go_wp2_with (first
                        | (go_at_call 77; refine HLf.out.mono ?_; rintro e w3 ⟨rfl, hk3⟩; have g3 : w3.cell? ⟨gx, 0, none⟩ = some (.bool true) := (HG.out.keep hk3 (by simp)).cell_eq rfl; have hW3 := HW.out.nil hk3; obtain ⟨-, r3, -⟩ := hW3.cells; have HE3 := Lib.hid (oerr_any w3 g v b kk 0 hW3.rd); have HKK3 := Lib.hid hk3; clear hk3 hW3)
                        | (go_at_call 74; refine HE3.out.mono ?_; rintro e w4 ⟨rfl, rfl⟩))
                      go_meet
                      exact ⟨by rw [← HCB.out]; have := H0.out; simp; omega, HKK3.out⟩
                    · have hf1 : ((ff : Int) == 0) = false := by simp; omega
                      have HF0 := Lib.hid hf0
                      clear hf0
                      go_wp2_with (first
                        | (go_at_call 77; refine HLf.out.mono ?_; rintro e w3 ⟨rfl, hk3⟩; have g3 : w3.cell? ⟨gx, 0, none⟩ = some (.bool true) := (HG.out.keep hk3 (by simp)).cell_eq rfl; have hW3 := HW.out.nil hk3; obtain ⟨-, r3, -⟩ := hW3.cells; have HE3 := Lib.hid (oerr_any w3 g v b kk ff hW3.rd); have HKK3 := Lib.hid hk3; clear hk3 hW3)
                        | (go_at_call 74; refine HE3.out.mono ?_; rintro e w4 ⟨rfl, rfl⟩))
                      go_meet
                      exact ⟨by rw [← HCB.out]; have := HF0.out; simp [this], HKK3.out⟩
              case rest =>
                obtain ⟨rfl, hkc⟩ := hcut
                have hWc := HW.out.nil hkc
                have hGc := HG.out.keep hkc (by simp)
                have hKc := HK.out.nil hkc
                have HWC := Lib.hid hWc
                have HGC := Lib.hid hGc
                have HKC := Lib.hid hKc
                clear r0
                have r0 : wc.cell? ⟨rx, 0, none⟩ = some (.pointer (some ⟨g, 0, none⟩)) := hWc.rB.cell_eq rfl
                clear hWc hGc hKc hkc HW HG HK HLf
                cases cb with
                | true =>
                  generalize wc = wa at *
                  obtain ⟨h0, rfl, rfl⟩ : 0 < LK ∧ gd = true ∧ ff = 0 := by have := HCB.out; simpa [and_assoc] using this
                  have hkb : kk + 1 ≤ b.length := by have := HLK.out; omega
                  obtain ⟨c, hc⟩ : ∃ c, b[kk]? = some c := ⟨_, List.getElem?_eq_getElem (by omega)⟩
                  have HC := Lib.hid hc
                  have HAT : Hid (∀ W, Keep [] wa W → Calls Tryz.prog 78 #[.pointer (some ⟨g, 0, none⟩)] W fun e w' => e = .returned (.int .i64 kk) ∧ W = w') := fun W hW => oat_any W g v b kk 0 (HWC.out.nil hW).rd
                  have HRX : Hid (∀ W, Keep [] wa W → W.cell? ⟨rx, 0, none⟩ = some (.pointer (some ⟨g, 0, none⟩))) := fun W hW => (HWC.out.nil hW).rB.cell_eq rfl
                  have hrxl := HWC.out.rB.lt
                  have hrxg : rx ≠ g := HWC.out.rB.ne_ HWC.out.rd.blk (by decide)
                  have hg0 := HWC.out.rd.blk.lt
                  have HRW : Hid (∀ W, Keep [] wa W → Calls Tryz.prog 75 #[.pointer (some ⟨g, 0, none⟩), .int .i64 1] W fun e w' => ∃ v', e = .returned v' ∧ OwnU w' W.heap.size v' [c] ∧ Rdr w' g v b (kk + 1) 0 ∧ Keep [g] W w' ∧ w'.cell? ⟨rx, 0, none⟩ = some (.pointer (some ⟨g, 0, none⟩)) ∧ rx < w'.heap.size ∧ (Blk W wa.heap.size 36 #[.int .i64 0, .int .i64 0, .int .i64 0, .string ⟨#[]⟩, .string ⟨#[]⟩, .string ⟨#[]⟩, .string ⟨#[]⟩, .int .i64 0, .slice none 0 0, .slice none 0 0] → Blk w' wa.heap.size 36 #[.int .i64 0, .int .i64 0, .int .i64 0, .string ⟨#[]⟩, .string ⟨#[]⟩, .string ⟨#[]⟩, .string ⟨#[]⟩, .int .i64 0, .slice none 0 0, .slice none 0 0])) := fun W hW => by
                    have h := oraw_any W g v b kk 0 1 (by omega) (by omega) (HWC.out.nil hW).rd
                    rw [tk1B hc, tk1K hkb, tk1F hkb] at h
                    have hsz := hW.size
                    refine h.mono ?_
                    rintro e w' ⟨v', h1, h2, h3, h4⟩
                    have hs4 := h4.size
                    exact ⟨v', h1, h2, h3, h4, (h4.cell (p := ⟨rx, 0, none⟩) (Nat.lt_of_lt_of_le hrxl hsz) (by simpa using hrxg)).trans (HRX.out W hW), by omega, fun hz => hz.keep h4 (by simp; omega)⟩
                  have hwk : IntKind.i64.wrap ((kk : Int) - (k5 : Int)) = ((kk - k5 : Nat) : Int) := by rw [IntKind.wrap_i64]; omega
                  have hwk2 : wrap64 ((kk : Int) - (k5 : Int)) = ((kk - k5 : Nat) : Int) := by unfold wrap64; omega
                  have hcw : IntKind.i64.wrap (c.toNat : Int) = (c.toNat : Int) := IntWalk.i64_in _ (by have := c.toNat_lt; omega)
                  clear hc r0
                  go_upto_region 14 with fail
                  go_cut [11] (fun ob W => ∃ o, ob = .pointer (some ⟨o, 0, none⟩) ∧ wa.heap.size ≤ o ∧ Blk W o 36 #[.int .i64 ((kk - k5 : Nat) : Int), .int .i64 0, .int .i64 (c.toNat : Int), .string ⟨#[]⟩, .string ⟨#[]⟩, .string ⟨#[]⟩, .string ⟨#[]⟩, .int .i64 0, .slice none 0 0, .slice none 0 0] ∧ Rdr W g v b (kk + 1) 0 ∧ Keep [g] wa W)
                  case first =>
                    (refine wp_region_noPanic ?_; refine wp_region_held_drew (S := (fun W => W.cell? ⟨rx, 0, none⟩ = some (.pointer (some ⟨g, 0, none⟩)))) (by kernel_rfl) ?_ (fun hHeld => ?_); (· (first | (refine HRX4.out _ ?_; (repeat (first | with_reducible exact Keep.refl _ _ | with_reducible refine Keep.drew ?_ | with_reducible refine Keep.alloc ?_ _ | with_reducible refine Keep.set1 ?_)); done) | (refine HRX.out _ ?_; (repeat (first | with_reducible exact Keep.refl _ _ | with_reducible refine Keep.drew ?_ | with_reducible refine Keep.alloc ?_ _ | with_reducible refine Keep.set1 ?_)); done))); refine wpAnyH_take (i := 0) (v := ?_) rfl (by kernel_rfl) (by kernel_rfl) (by kernel_rfl) (fun _ _ _ h => h) (Or.inl ⟨by rfl, ?_⟩) (by assumption) ?_; rotate_left; (· (intro w hSw; go_simp; try with_reducible rfl)); refine wpAnyH_take (i := 2) (v := ?_) rfl (by kernel_rfl) (by kernel_rfl) (by kernel_rfl) (fun _ _ _ h => h) (Or.inl ⟨by rfl, ?_⟩) (by assumption) ?_; rotate_left; (· (intro w hSw; go_simp; try with_reducible rfl)); refine wpAnyH_take (i := 4) (v := ?_) rfl (by kernel_rfl) (by kernel_rfl) (by kernel_rfl) (fun _ _ _ h => h) (Or.inl ⟨by rfl, ?_⟩) (by assumption) ?_; rotate_left; (· (intro w hSw; go_simp; try with_reducible rfl)); refine wpAnyH_ready (rs := [1, 10]) (by kernel_rfl) (by simp) ?_; refine AllReadyH.cons rfl (fun K hK => ?_) ?_; go_simp; (first | (go_at_call 78; refine (HAT.out _ (by repeat (first | with_reducible exact Keep.refl _ _ | with_reducible refine Keep.drew ?_ | with_reducible refine Keep.alloc ?_ _))).mono ?_; rintro e w3 ⟨rfl, rfl⟩) | (go_at_call 75; refine (HRW.out _ (by repeat (first | with_reducible exact Keep.refl _ _ | with_reducible refine Keep.drew ?_ | with_reducible refine Keep.alloc ?_ _))).mono ?_; rintro e w4 ⟨v4, rfl, ho4, hr4, hk4, hx4, hlx4, hz4⟩; obtain ⟨b4, c4, rfl, hb4, y4⟩ := ho4.one0; have HRX4 : Hid (∀ W, Keep [wa.heap.size] w4 W → W.cell? ⟨rx, 0, none⟩ = some (.pointer (some ⟨g, 0, none⟩))) := (fun W hW => (hW.cell (p := ⟨rx, 0, none⟩) hlx4 (by simp; omega)).trans hx4); (try (have hz5 := hz4 (by first | exact Blk.new _ _ _ | exact (Blk.new _ _ _).drew); obtain ⟨e0, e1, e2, e3, e4, e5, e6, e7, e8, e9, y10, y11, y12, y13, y14, y15, y16, y17, y18, y19⟩ := zeroOp hz5; have HZ5 := Lib.hid hz5; clear hz5)); have HR4 := Lib.hid hr4; have HKK4 := Lib.hid hk4; clear hr4 hk4 ho4 hx4 hz4) | fail); refine hK.out _ _ ?_ (fun hHeld => ?_); (· (first | (refine HRX4.out _ ?_; (repeat (first | with_reducible exact Keep.refl _ _ | with_reducible refine Keep.drew ?_ | with_reducible refine Keep.alloc ?_ _ | with_reducible refine Keep.set1 ?_)); done) | (refine HRX.out _ ?_; (repeat (first | with_reducible exact Keep.refl _ _ | with_reducible refine Keep.drew ?_ | with_reducible refine Keep.alloc ?_ _ | with_reducible refine Keep.set1 ?_)); done))); clear hK K; refine wpAnyH_take (i := 3) (v := ?_) rfl (by kernel_rfl) (by kernel_rfl) (by kernel_rfl) (fun _ _ _ h => h) (Or.inl ⟨by rfl, ?_⟩) (by assumption) ?_; rotate_left; (· (intro w hSw; go_simp; try with_reducible rfl)); refine wpAnyH_ready (rs := [5, 10]) (by kernel_rfl) (by simp) ?_; refine AllReadyH.cons rfl (fun K hK => ?_) ?_; go_simp; (first | (go_at_call 78; refine (HAT.out _ (by repeat (first | with_reducible exact Keep.refl _ _ | with_reducible refine Keep.drew ?_ | with_reducible refine Keep.alloc ?_ _))).mono ?_; rintro e w3 ⟨rfl, rfl⟩) | (go_at_call 75; refine (HRW.out _ (by repeat (first | with_reducible exact Keep.refl _ _ | with_reducible refine Keep.drew ?_ | with_reducible refine Keep.alloc ?_ _))).mono ?_; rintro e w4 ⟨v4, rfl, ho4, hr4, hk4, hx4, hlx4, hz4⟩; obtain ⟨b4, c4, rfl, hb4, y4⟩ := ho4.one0; have HRX4 : Hid (∀ W, Keep [wa.heap.size] w4 W → W.cell? ⟨rx, 0, none⟩ = some (.pointer (some ⟨g, 0, none⟩))) := (fun W hW => (hW.cell (p := ⟨rx, 0, none⟩) hlx4 (by simp; omega)).trans hx4); (try (have hz5 := hz4 (by first | exact Blk.new _ _ _ | exact (Blk.new _ _ _).drew); obtain ⟨e0, e1, e2, e3, e4, e5, e6, e7, e8, e9, y10, y11, y12, y13, y14, y15, y16, y17, y18, y19⟩ := zeroOp hz5; have HZ5 := Lib.hid hz5; clear hz5)); have HR4 := Lib.hid hr4; have HKK4 := Lib.hid hk4; clear hr4 hk4 ho4 hx4 hz4) | fail); refine hK.out _ _ ?_ (fun hHeld => ?_); (· (first | (refine HRX4.out _ ?_; (repeat (first | with_reducible exact Keep.refl _ _ | with_reducible refine Keep.drew ?_ | with_reducible refine Keep.alloc ?_ _ | with_reducible refine Keep.set1 ?_)); done) | (refine HRX.out _ ?_; (repeat (first | with_reducible exact Keep.refl _ _ | with_reducible refine Keep.drew ?_ | with_reducible refine Keep.alloc ?_ _ | with_reducible refine Keep.set1 ?_)); done))); clear hK K; refine wpAnyH_take (i := 6) (v := ?_) rfl (by kernel_rfl) (by kernel_rfl) (by kernel_rfl) (fun _ _ _ h => h) (Or.inl ⟨by rfl, ?_⟩) (by assumption) ?_; rotate_left; (· (intro w hSw; go_simp; try with_reducible rfl)); refine wpAnyH_ready (rs := [7, 10]) (by kernel_rfl) (by simp) ?_; refine AllReadyH.cons rfl (fun K hK => ?_) ?_; go_simp; refine hK.out _ _ ?_ (fun hHeld => ?_); (· (first | (refine HRX4.out _ ?_; (repeat (first | with_reducible exact Keep.refl _ _ | with_reducible refine Keep.drew ?_ | with_reducible refine Keep.alloc ?_ _ | with_reducible refine Keep.set1 ?_)); done) | (refine HRX.out _ ?_; (repeat (first | with_reducible exact Keep.refl _ _ | with_reducible refine Keep.drew ?_ | with_reducible refine Keep.alloc ?_ _ | with_reducible refine Keep.set1 ?_)); done))); clear hK K; refine wpAnyH_take (i := 8) (v := ?_) rfl (by kernel_rfl) (by kernel_rfl) (by kernel_rfl) (fun _ _ _ h => h) (Or.inl ⟨by rfl, ?_⟩) (by assumption) ?_; rotate_left; (· (intro w hSw; go_simp; try with_reducible rfl)); refine wpAnyH_take (i := 9) (v := ?_) rfl (by kernel_rfl) (by kernel_rfl) (by kernel_rfl) (fun _ _ _ h => h) (Or.inl ⟨by rfl, ?_⟩) (by assumption) ?_; rotate_left; (· (intro w hSw; go_simp; try with_reducible rfl)); refine wpAnyH_ready (rs := [10]) (by kernel_rfl) (by simp) ?_; refine AllReadyH.cons rfl (fun K hK => ?_) ?_; go_simp; refine hK.out _ _ ?_ (fun hHeld => ?_); (· (first | (refine HRX4.out _ ?_; (repeat (first | with_reducible exact Keep.refl _ _ | with_reducible refine Keep.drew ?_ | with_reducible refine Keep.alloc ?_ _ | with_reducible refine Keep.set1 ?_)); done) | (refine HRX.out _ ?_; (repeat (first | with_reducible exact Keep.refl _ _ | with_reducible refine Keep.drew ?_ | with_reducible refine Keep.alloc ?_ _ | with_reducible refine Keep.set1 ?_)); done))); clear hK K; refine wpAnyH_ready (rs := [11]) (by kernel_rfl) (by simp) ?_; refine AllReadyH.cons rfl (fun K hK => ?_) ?_; go_simp; refine hK.out _ _ ?_ (fun hHeld => ?_); (· (first | (refine HRX4.out _ ?_; (repeat (first | with_reducible exact Keep.refl _ _ | with_reducible refine Keep.drew ?_ | with_reducible refine Keep.alloc ?_ _ | with_reducible refine Keep.set1 ?_)); done) | (refine HRX.out _ ?_; (repeat (first | with_reducible exact Keep.refl _ _ | with_reducible refine Keep.drew ?_ | with_reducible refine Keep.alloc ?_ _ | with_reducible refine Keep.set1 ?_)); done))); clear hK K; refine wpAnyH_done (by kernel_rfl) ?_ _; refine NoPanic.normal ?_; rotate_left; exact AllReadyH.nil; exact AllReadyH.nil; refine AllReadyH.cons rfl (fun K hK => ?_) ?_; go_simp; refine hK.out _ _ ?_ (fun hHeld => ?_); (· (first | (refine HRX4.out _ ?_; (repeat (first | with_reducible exact Keep.refl _ _ | with_reducible refine Keep.drew ?_ | with_reducible refine Keep.alloc ?_ _ | with_reducible refine Keep.set1 ?_)); done) | (refine HRX.out _ ?_; (repeat (first | with_reducible exact Keep.refl _ _ | with_reducible refine Keep.drew ?_ | with_reducible refine Keep.alloc ?_ _ | with_reducible refine Keep.set1 ?_)); done))); clear hK K; refine wpAnyH_ready (rs := [7]) (by kernel_rfl) (by simp) ?_; refine AllReadyH.cons rfl (fun K hK => ?_) ?_; go_simp; refine hK.out _ _ ?_ (fun hHeld => ?_); (· (first | (refine HRX4.out _ ?_; (repeat (first | with_reducible exact Keep.refl _ _ | with_reducible refine Keep.drew ?_ | with_reducible refine Keep.alloc ?_ _ | with_reducible refine Keep.set1 ?_)); done) | (refine HRX.out _ ?_; (repeat (first | with_reducible exact Keep.refl _ _ | with_reducible refine Keep.drew ?_ | with_reducible refine Keep.alloc ?_ _ | with_reducible refine Keep.set1 ?_)); done))); clear hK K; refine wpAnyH_take (i := 8) (v := ?_) rfl (by kernel_rfl) (by kernel_rfl) (by kernel_rfl) (fun _ _ _ h => h) (Or.inl ⟨by rfl, ?_⟩) (by assumption) ?_; rotate_left; (· (intro w hSw; go_simp; try with_reducible rfl)); refine wpAnyH_take (i := 9) (v := ?_) rfl (by kernel_rfl) (by kernel_rfl) (by kernel_rfl) (fun _ _ _ h => h) (Or.inl ⟨by rfl, ?_⟩) (by assumption) ?_; rotate_left; (· (intro w hSw; go_simp; try with_reducible rfl)); refine wpAnyH_ready (rs := [11]) (by kernel_rfl) (by simp) ?_; refine AllReadyH.cons rfl (fun K hK => ?_) ?_; go_simp; refine hK.out _ _ ?_ (fun hHeld => ?_); (· (first | (refine HRX4.out _ ?_; (repeat (first | with_reducible exact Keep.refl _ _ | with_reducible refine Keep.drew ?_ | with_reducible refine Keep.alloc ?_ _ | with_reducible refine Keep.set1 ?_)); done) | (refine HRX.out _ ?_; (repeat (first | with_reducible exact Keep.refl _ _ | with_reducible refine Keep.drew ?_ | with_reducible refine Keep.alloc ?_ _ | with_reducible refine Keep.set1 ?_)); done))); clear hK K; refine wpAnyH_done (by kernel_rfl) ?_ _; refine NoPanic.normal ?_; rotate_left; exact AllReadyH.nil; exact AllReadyH.nil; exact AllReadyH.nil; refine AllReadyH.cons rfl (fun K hK => ?_) ?_; go_simp; refine hK.out _ _ ?_ (fun hHeld => ?_); (· (first | (refine HRX4.out _ ?_; (repeat (first | with_reducible exact Keep.refl _ _ | with_reducible refine Keep.drew ?_ | with_reducible refine Keep.alloc ?_ _ | with_reducible refine Keep.set1 ?_)); done) | (refine HRX.out _ ?_; (repeat (first | with_reducible exact Keep.refl _ _ | with_reducible refine Keep.drew ?_ | with_reducible refine Keep.alloc ?_ _ | with_reducible refine Keep.set1 ?_)); done))); clear hK K; refine wpAnyH_ready (rs := [5]) (by kernel_rfl) (by simp) ?_; refine AllReadyH.cons rfl (fun K hK => ?_) ?_; go_simp; (first | (go_at_call 78; refine (HAT.out _ (by repeat (first | with_reducible exact Keep.refl _ _ | with_reducible refine Keep.drew ?_ | with_reducible refine Keep.alloc ?_ _))).mono ?_; rintro e w3 ⟨rfl, rfl⟩) | (go_at_call 75; refine (HRW.out _ (by repeat (first | with_reducible exact Keep.refl _ _ | with_reducible refine Keep.drew ?_ | with_reducible refine Keep.alloc ?_ _))).mono ?_; rintro e w4 ⟨v4, rfl, ho4, hr4, hk4, hx4, hlx4, hz4⟩; obtain ⟨b4, c4, rfl, hb4, y4⟩ := ho4.one0; have HRX4 : Hid (∀ W, Keep [wa.heap.size] w4 W → W.cell? ⟨rx, 0, none⟩ = some (.pointer (some ⟨g, 0, none⟩))) := (fun W hW => (hW.cell (p := ⟨rx, 0, none⟩) hlx4 (by simp; omega)).trans hx4); (try (have hz5 := hz4 (by first | exact Blk.new _ _ _ | exact (Blk.new _ _ _).drew); obtain ⟨e0, e1, e2, e3, e4, e5, e6, e7, e8, e9, y10, y11, y12, y13, y14, y15, y16, y17, y18, y19⟩ := zeroOp hz5; have HZ5 := Lib.hid hz5; clear hz5)); have HR4 := Lib.hid hr4; have HKK4 := Lib.hid hk4; clear hr4 hk4 ho4 hx4 hz4) | fail); refine hK.out _ _ ?_ (fun hHeld => ?_); (· (first | (refine HRX4.out _ ?_; (repeat (first | with_reducible exact Keep.refl _ _ | with_reducible refine Keep.drew ?_ | with_reducible refine Keep.alloc ?_ _ | with_reducible refine Keep.set1 ?_)); done) | (refine HRX.out _ ?_; (repeat (first | with_reducible exact Keep.refl _ _ | with_reducible refine Keep.drew ?_ | with_reducible refine Keep.alloc ?_ _ | with_reducible refine Keep.set1 ?_)); done))); clear hK K; refine wpAnyH_take (i := 6) (v := ?_) rfl (by kernel_rfl) (by kernel_rfl) (by kernel_rfl) (fun _ _ _ h => h) (Or.inl ⟨by rfl, ?_⟩) (by assumption) ?_; rotate_left; (· (intro w hSw; go_simp; try with_reducible rfl)); refine wpAnyH_ready (rs := [7]) (by kernel_rfl) (by simp) ?_; refine AllReadyH.cons rfl (fun K hK => ?_) ?_; go_simp; refine hK.out _ _ ?_ (fun hHeld => ?_); (· (first | (refine HRX4.out _ ?_; (repeat (first | with_reducible exact Keep.refl _ _ | with_reducible refine Keep.drew ?_ | with_reducible refine Keep.alloc ?_ _ | with_reducible refine Keep.set1 ?_)); done) | (refine HRX.out _ ?_; (repeat (first | with_reducible exact Keep.refl _ _ | with_reducible refine Keep.drew ?_ | with_reducible refine Keep.alloc ?_ _ | with_reducible refine Keep.set1 ?_)); done))); clear hK K; refine wpAnyH_take (i := 8) (v := ?_) rfl (by kernel_rfl) (by kernel_rfl) (by kernel_rfl) (fun _ _ _ h => h) (Or.inl ⟨by rfl, ?_⟩) (by assumption) ?_; rotate_left; (· (intro w hSw; go_simp; try with_reducible rfl)); refine wpAnyH_take (i := 9) (v := ?_) rfl (by kernel_rfl) (by kernel_rfl) (by kernel_rfl) (fun _ _ _ h => h) (Or.inl ⟨by rfl, ?_⟩) (by assumption) ?_; rotate_left; (· (intro w hSw; go_simp; try with_reducible rfl)); refine wpAnyH_ready (rs := [11]) (by kernel_rfl) (by simp) ?_; refine AllReadyH.cons rfl (fun K hK => ?_) ?_; go_simp; refine hK.out _ _ ?_ (fun hHeld => ?_); (· (first | (refine HRX4.out _ ?_; (repeat (first | with_reducible exact Keep.refl _ _ | with_reducible refine Keep.drew ?_ | with_reducible refine Keep.alloc ?_ _ | with_reducible refine Keep.set1 ?_)); done) | (refine HRX.out _ ?_; (repeat (first | with_reducible exact Keep.refl _ _ | with_reducible refine Keep.drew ?_ | with_reducible refine Keep.alloc ?_ _ | with_reducible refine Keep.set1 ?_)); done))); clear hK K; refine wpAnyH_done (by kernel_rfl) ?_ _; refine NoPanic.normal ?_; rotate_left; exact AllReadyH.nil; exact AllReadyH.nil; exact AllReadyH.nil; exact AllReadyH.nil; refine AllReadyH.cons rfl (fun K hK => ?_) ?_; go_simp; refine hK.out _ _ ?_ (fun hHeld => ?_); (· (first | (refine HRX4.out _ ?_; (repeat (first | with_reducible exact Keep.refl _ _ | with_reducible refine Keep.drew ?_ | with_reducible refine Keep.alloc ?_ _ | with_reducible refine Keep.set1 ?_)); done) | (refine HRX.out _ ?_; (repeat (first | with_reducible exact Keep.refl _ _ | with_reducible refine Keep.drew ?_ | with_reducible refine Keep.alloc ?_ _ | with_reducible refine Keep.set1 ?_)); done))); clear hK K; refine wpAnyH_ready (rs := [1]) (by kernel_rfl) (by simp) ?_; refine AllReadyH.cons rfl (fun K hK => ?_) ?_; go_simp; (first | (go_at_call 78; refine (HAT.out _ (by repeat (first | with_reducible exact Keep.refl _ _ | with_reducible refine Keep.drew ?_ | with_reducible refine Keep.alloc ?_ _))).mono ?_; rintro e w3 ⟨rfl, rfl⟩) | (go_at_call 75; refine (HRW.out _ (by repeat (first | with_reducible exact Keep.refl _ _ | with_reducible refine Keep.drew ?_ | with_reducible refine Keep.alloc ?_ _))).mono ?_; rintro e w4 ⟨v4, rfl, ho4, hr4, hk4, hx4, hlx4, hz4⟩; obtain ⟨b4, c4, rfl, hb4, y4⟩ := ho4.one0; have HRX4 : Hid (∀ W, Keep [wa.heap.size] w4 W → W.cell? ⟨rx, 0, none⟩ = some (.pointer (some ⟨g, 0, none⟩))) := (fun W hW => (hW.cell (p := ⟨rx, 0, none⟩) hlx4 (by simp; omega)).trans hx4); (try (have hz5 := hz4 (by first | exact Blk.new _ _ _ | exact (Blk.new _ _ _).drew); obtain ⟨e0, e1, e2, e3, e4, e5, e6, e7, e8, e9, y10, y11, y12, y13, y14, y15, y16, y17, y18, y19⟩ := zeroOp hz5; have HZ5 := Lib.hid hz5; clear hz5)); have HR4 := Lib.hid hr4; have HKK4 := Lib.hid hk4; clear hr4 hk4 ho4 hx4 hz4) | fail); refine hK.out _ _ ?_ (fun hHeld => ?_); (· (first | (refine HRX4.out _ ?_; (repeat (first | with_reducible exact Keep.refl _ _ | with_reducible refine Keep.drew ?_ | with_reducible refine Keep.alloc ?_ _ | with_reducible refine Keep.set1 ?_)); done) | (refine HRX.out _ ?_; (repeat (first | with_reducible exact Keep.refl _ _ | with_reducible refine Keep.drew ?_ | with_reducible refine Keep.alloc ?_ _ | with_reducible refine Keep.set1 ?_)); done))); clear hK K; refine wpAnyH_take (i := 3) (v := ?_) rfl (by kernel_rfl) (by kernel_rfl) (by kernel_rfl) (fun _ _ _ h => h) (Or.inl ⟨by rfl, ?_⟩) (by assumption) ?_; rotate_left; (· (intro w hSw; go_simp; try with_reducible rfl)); refine wpAnyH_ready (rs := [5]) (by kernel_rfl) (by simp) ?_; refine AllReadyH.cons rfl (fun K hK => ?_) ?_; go_simp; (first | (go_at_call 78; refine (HAT.out _ (by repeat (first | with_reducible exact Keep.refl _ _ | with_reducible refine Keep.drew ?_ | with_reducible refine Keep.alloc ?_ _))).mono ?_; rintro e w3 ⟨rfl, rfl⟩) | (go_at_call 75; refine (HRW.out _ (by repeat (first | with_reducible exact Keep.refl _ _ | with_reducible refine Keep.drew ?_ | with_reducible refine Keep.alloc ?_ _))).mono ?_; rintro e w4 ⟨v4, rfl, ho4, hr4, hk4, hx4, hlx4, hz4⟩; obtain ⟨b4, c4, rfl, hb4, y4⟩ := ho4.one0; have HRX4 : Hid (∀ W, Keep [wa.heap.size] w4 W → W.cell? ⟨rx, 0, none⟩ = some (.pointer (some ⟨g, 0, none⟩))) := (fun W hW => (hW.cell (p := ⟨rx, 0, none⟩) hlx4 (by simp; omega)).trans hx4); (try (have hz5 := hz4 (by first | exact Blk.new _ _ _ | exact (Blk.new _ _ _).drew); obtain ⟨e0, e1, e2, e3, e4, e5, e6, e7, e8, e9, y10, y11, y12, y13, y14, y15, y16, y17, y18, y19⟩ := zeroOp hz5; have HZ5 := Lib.hid hz5; clear hz5)); have HR4 := Lib.hid hr4; have HKK4 := Lib.hid hk4; clear hr4 hk4 ho4 hx4 hz4) | fail); refine hK.out _ _ ?_ (fun hHeld => ?_); (· (first | (refine HRX4.out _ ?_; (repeat (first | with_reducible exact Keep.refl _ _ | with_reducible refine Keep.drew ?_ | with_reducible refine Keep.alloc ?_ _ | with_reducible refine Keep.set1 ?_)); done) | (refine HRX.out _ ?_; (repeat (first | with_reducible exact Keep.refl _ _ | with_reducible refine Keep.drew ?_ | with_reducible refine Keep.alloc ?_ _ | with_reducible refine Keep.set1 ?_)); done))); clear hK K; refine wpAnyH_take (i := 6) (v := ?_) rfl (by kernel_rfl) (by kernel_rfl) (by kernel_rfl) (fun _ _ _ h => h) (Or.inl ⟨by rfl, ?_⟩) (by assumption) ?_; rotate_left; (· (intro w hSw; go_simp; try with_reducible rfl)); refine wpAnyH_ready (rs := [7]) (by kernel_rfl) (by simp) ?_; refine AllReadyH.cons rfl (fun K hK => ?_) ?_; go_simp; refine hK.out _ _ ?_ (fun hHeld => ?_); (· (first | (refine HRX4.out _ ?_; (repeat (first | with_reducible exact Keep.refl _ _ | with_reducible refine Keep.drew ?_ | with_reducible refine Keep.alloc ?_ _ | with_reducible refine Keep.set1 ?_)); done) | (refine HRX.out _ ?_; (repeat (first | with_reducible exact Keep.refl _ _ | with_reducible refine Keep.drew ?_ | with_reducible refine Keep.alloc ?_ _ | with_reducible refine Keep.set1 ?_)); done))); clear hK K; refine wpAnyH_take (i := 8) (v := ?_) rfl (by kernel_rfl) (by kernel_rfl) (by kernel_rfl) (fun _ _ _ h => h) (Or.inl ⟨by rfl, ?_⟩) (by assumption) ?_; rotate_left; (· (intro w hSw; go_simp; try with_reducible rfl)); refine wpAnyH_take (i := 9) (v := ?_) rfl (by kernel_rfl) (by kernel_rfl) (by kernel_rfl) (fun _ _ _ h => h) (Or.inl ⟨by rfl, ?_⟩) (by assumption) ?_; rotate_left; (· (intro w hSw; go_simp; try with_reducible rfl)); refine wpAnyH_ready (rs := [11]) (by kernel_rfl) (by simp) ?_; refine AllReadyH.cons rfl (fun K hK => ?_) ?_; go_simp; refine hK.out _ _ ?_ (fun hHeld => ?_); (· (first | (refine HRX4.out _ ?_; (repeat (first | with_reducible exact Keep.refl _ _ | with_reducible refine Keep.drew ?_ | with_reducible refine Keep.alloc ?_ _ | with_reducible refine Keep.set1 ?_)); done) | (refine HRX.out _ ?_; (repeat (first | with_reducible exact Keep.refl _ _ | with_reducible refine Keep.drew ?_ | with_reducible refine Keep.alloc ?_ _ | with_reducible refine Keep.set1 ?_)); done))); clear hK K; refine wpAnyH_done (by kernel_rfl) ?_ _; refine NoPanic.normal ?_; rotate_left; exact AllReadyH.nil; exact AllReadyH.nil; exact AllReadyH.nil; exact AllReadyH.nil; exact AllReadyH.nil)
                    all_goals
                      go_wp2_with fail
                      go_meet
                      have hK0 : Keep [g] wa w4 := Keep.trans (bs := [g]) (by (repeat (first | with_reducible exact Keep.refl _ _ | with_reducible refine Keep.drew ?_ | with_reducible refine Keep.alloc ?_ _)); done) HKK4.out (fun x hx => .inl hx)
                      first
                        | (have hz := op10 (.int .i64 ((kk - k5 : Nat) : Int)) (.int .i64 0) (.int .i64 (c.toNat : Int)) (.string ⟨#[]⟩) (.string ⟨#[]⟩) (.string ⟨#[]⟩) (.string ⟨#[]⟩) (.int .i64 0) (.slice none 0 0) (.slice none 0 0) HZ5.out
                           have hKf := keep10 (u0 := .int .i64 ((kk - k5 : Nat) : Int)) (u1 := .int .i64 0) (u2 := .int .i64 (c.toNat : Int)) (u3 := .string ⟨#[]⟩) (u4 := .string ⟨#[]⟩) (u5 := .string ⟨#[]⟩) (u6 := .string ⟨#[]⟩) (u7 := .int .i64 0) (u8 := .slice none 0 0) (u9 := .slice none 0 0) hK0 (.inr (Nat.le_refl wa.heap.size))
                           have hKg := keep10 (u0 := .int .i64 ((kk - k5 : Nat) : Int)) (u1 := .int .i64 0) (u2 := .int .i64 (c.toNat : Int)) (u3 := .string ⟨#[]⟩) (u4 := .string ⟨#[]⟩) (u5 := .string ⟨#[]⟩) (u6 := .string ⟨#[]⟩) (u7 := .int .i64 0) (u8 := .slice none 0 0) (u9 := .slice none 0 0) (Keep.refl [wa.heap.size] w4) (.inl (List.mem_singleton_self wa.heap.size))
                           have hUf := HWC.out.bO.keepR hKf (by simpa using NoRow.blk HWC.out.rd.blk (by decide))
                           have hRf := HR4.out.keepO hUf hKg (by simp; omega)
                           exact ⟨wa.heap.size, rfl, Nat.le_refl _, hz, hRf, hKf⟩)
                        | exact ⟨w4.heap.size, rfl, hK0.size, Blk.new _ _ _, HR4.out.keep ((Keep.refl [] w4).alloc _), hK0.alloc _⟩
                  case rest =>
                    obtain ⟨ob, rfl, hob, hB, hR, hkk1⟩ := hcut
                    have hgxg : gx ≠ g := HGC.out.ne_ HWC.out.rd.blk (by decide)
                    have hGb : Blk wc gx 4 #[.bool true] := HGC.out.keep hkk1 (by simpa using hgxg)
                    have hgxl := HGC.out.lt
                    have c2 : wc.cell? ⟨ob, 2, none⟩ = some (.int .i64 (c.toNat : Int)) := hB.cell_eq rfl
                    have HB := Lib.hid hB
                    have HR := Lib.hid hR
                    have HK1 := Lib.hid hkk1
                    have HGB := Lib.hid hGb
                    clear hB hR hkk1 hGb HAT HRW HRX hwk hwk2 hcw
                    have hwaob : wa.heap.size ≤ ob := hob
                    have HUA := Lib.hid (OwnU.keepR HWC.out.bO HK1.out (by simpa using NoRow.blk HWC.out.rd.blk (by decide)))
                    have hgob : g ≠ ob := by omega
                    have hgxob : gx ≠ ob := by omega
                    go_at_K
                    go_step
                    go_step
                    go_cut [] (fun W => ∃ (o : OT) (gd' : Bool) (k' f' : Nat) (kv tv : Value), opR b acc k5 (kk - k5) c.toNat (rdOf (kk + 1) 0) = (o, gd', rdOf k' f') ∧ o.at_ = kk - k5 ∧ o.nx = k' - k5 ∧ Blk W ob 36 #[.int .i64 (o.at_ : Int), .int .i64 0, .int .i64 (o.k : Int), .string o.tx, .string o.nm, .string o.ty, .string o.st, .int .i64 (o.off : Int), kv, tv] ∧
                      Blk W gx 4 #[.bool gd'] ∧ Rdr W g v b k' f' ∧ f' ≤ 1000 ∧ kk + 1 ≤ k' ∧ OwnS W (ob + 1) kv o.ks ∧ OwnN W (ob + 1) tv o.ts ∧ Keep [g, gx] wa W)
                    case first =>
                      have HPS : Hid (PS wc mb gx g ob v b (kk + 1) 0 true #[.int .i64 ((kk - k5 : Nat) : Int), .int .i64 0, .int .i64 (c.toNat : Int), .string ⟨#[]⟩, .string ⟨#[]⟩, .string ⟨#[]⟩, .string ⟨#[]⟩, .int .i64 0, .slice none 0 0, .slice none 0 0]) := ⟨HB.out, HGB.out, HR.out, HUA.out⟩
                      have HKA : Hid (Keep [g, gx] wa wc) := HK1.out.mono (fun x hx => .inl (by simp at hx; simp [hx]))
                      have hPm : acc.length ≤ 1000000 := by omega
                      have hobl := HB.out.lt
                      have hkb0 : kk + 1 ≤ b.length := hkb
                      by_cases k0 : c.toNat = 0
                      · as_aux_lemma =>
                          have K0 := Lib.hid k0
                          rw [k0] at c2 HPS
                          clear k0
                          go_wp2
                          go_meet
                          exact ⟨⟨kk - k5, kk + 1 - k5, 0, ⟨#[]⟩, ⟨#[]⟩, ⟨#[]⟩, ⟨#[]⟩, 0, [], []⟩, true, kk + 1, 0, .slice none 0 0, .slice none 0 0, by rw [K0.out]; exact opR_0, rfl, rfl, HPS.out.ob, HPS.out.gx, HPS.out.rd, by omega, Nat.le_refl _, OwnS.nil _ _, OwnN.nil _ _, HKA.out⟩
                      by_cases k1 : c.toNat = 1
                      · as_aux_lemma =>
                          have K1 := Lib.hid k1
                          rw [k1] at c2 HPS
                          have HT := Lib.hid (ltext_ps HWC.out HGC.out HKA.out HPS.out (by omega) hPm false)
                          have hf1l := tkF_le (b := b) (k := kk + 1) (n := 2) (show 0 ≤ 1000 by omega)
                          have hk1g := tkK_ge b (kk + 1) 0 2
                          have hop1 : opR b acc k5 (kk - k5) c.toNat (rdOf (kk + 1) 0) = opR b acc k5 (kk - k5) 1 (rdOf (kk + 1) 0) := by rw [k1]
                          have hop := hop1.trans (opR_1 hkb)
                          clear hop1
                          generalize tkK b (kk + 1) 0 2 = kA at *
                          generalize tkF b (kk + 1) 0 2 = fA at *
                          generalize txt b acc (kk + 1) 0 = sA at *
                          generalize txg b acc false (kk + 1) 0 = gA at *
                          have HOP := Lib.hid hop
                          clear k0 k1 hop
                          go_wp2_with (go_at_call 79; refine HT.out.mono ?_; rintro e w5 ⟨rfl, hp5, hk5⟩; have d5 : w5.cell? ⟨ob, 3, none⟩ = some (.string ⟨#[]⟩) := hp5.ob.cell_eq rfl; have d5z := hp5.ob.frozen 3; have HP5 := Lib.hid hp5; have HKK5 := Lib.hid hk5; clear hp5 hk5)
                          go_meet
                          have hP6 := HP5.out.set 3 (.string sA)
                          exact ⟨⟨kk - k5, kA - k5, 1, sA, ⟨#[]⟩, ⟨#[]⟩, ⟨#[]⟩, 0, [], []⟩, gA, kA, fA, .slice none 0 0, .slice none 0 0, HOP.out, rfl, rfl, hP6.ob, hP6.gx, hP6.rd, hf1l, hk1g, OwnS.nil _ _, OwnN.nil _ _, (HKA.out.same HKK5.out).setCell (.inr hwaob) _⟩
                      by_cases k7 : c.toNat = 7
                      · as_aux_lemma =>
                          have K7 := Lib.hid k7
                          rw [k7] at c2 HPS
                          have HU := Lib.hid (u32_ps HPS.out (by omega))
                          have hf1l := tkF_le (b := b) (k := kk + 1) (n := 4) (show 0 ≤ 1000 by omega)
                          have hk1g := tkK_ge b (kk + 1) 0 4
                          have hnl := num32_lt b (kk + 1) 0
                          have hop1 : opR b acc k5 (kk - k5) c.toNat (rdOf (kk + 1) 0) = opR b acc k5 (kk - k5) 7 (rdOf (kk + 1) 0) := by rw [k7]
                          have hop := hop1.trans (opR_7 hkb)
                          clear hop1
                          have r1 : wc.cell? ⟨rx, 0, none⟩ = some (.pointer (some ⟨g, 0, none⟩)) := (HWC.out.rB.keep HK1.out (by simpa using HWC.out.rB.ne_ HWC.out.rd.blk (by decide))).cell_eq rfl
                          generalize numU (tkB b (kk + 1) 0 4) = nA at *
                          generalize tkK b (kk + 1) 0 4 = kA at *
                          generalize tkF b (kk + 1) 0 4 = fA at *
                          have hwn : IntKind.i64.wrap (nA : Int) = (nA : Int) := IntWalk.i64_in _ (by omega)
                          have HOP := Lib.hid hop
                          clear k0 k1 k7 hop
                          go_wp2_with (go_at_call 76; refine HU.out.mono ?_; rintro e w5 ⟨rfl, hp5, hk5⟩; have hp5a := hp5.nil ((Keep.refl [] w5).alloc (.cells #[.int .i64 (nA : Int)] 3)); have d5 : (w5.alloc (.cells #[.int .i64 (nA : Int)] 3)).cell? ⟨ob, 9, none⟩ = some (.slice none 0 0) := hp5a.ob.cell_eq rfl; have d5z := hp5a.ob.frozen 9; have d5' : w5.cell? ⟨ob, 9, none⟩ = some (.slice none 0 0) := hp5.ob.cell_eq rfl; have d5z' := hp5.ob.frozen 9; have HP5 := Lib.hid hp5a; have HKK5 := Lib.hid hk5; clear hp5 hp5a hk5)
                          go_meet
                          have hz5 := (HKA.out.same HKK5.out).size
                          have hP6 := HP5.out.set 9 (.slice (some ⟨w5.heap.size, 0, none⟩) 1 1)
                          have hobw : ob + 1 ≤ w5.heap.size := by have := HKK5.out.size; omega
                          exact ⟨⟨kk - k5, kA - k5, 7, ⟨#[]⟩, ⟨#[]⟩, ⟨#[]⟩, ⟨#[]⟩, 0, [], [nA]⟩, true, kA, fA, .slice none 0 0, .slice (some ⟨w5.heap.size, 0, none⟩) 1 1, HOP.out, rfl, rfl, hP6.ob, hP6.gx, hP6.rd, hf1l, hk1g, OwnS.nil _ _, ((OwnN.one w5 nA).le hobw).keep (bs := [ob]) (Keep.set1 (Keep.refl _ _)) (fun x hx => by simp [Value.ownBlock] at hx ⊢; omega), ((HKA.out.same HKK5.out).alloc _).setCell (.inr hwaob) _⟩
                      by_cases k8 : 7 < c.toNat
                      · as_aux_lemma =>
                          have K8 := Lib.hid k8
                          have b0 : ((c.toNat : Int) == 0) = false := by simp; omega
                          have b1 : ((c.toNat : Int) == 1) = false := by simp; omega
                          have b2 : ((c.toNat : Int) == 2) = false := by simp; omega
                          have b3 : ((c.toNat : Int) == 3) = false := by simp; omega
                          have b4 : ((c.toNat : Int) == 4) = false := by simp; omega
                          have b5 : ((c.toNat : Int) == 5) = false := by simp; omega
                          have b6 : ((c.toNat : Int) == 6) = false := by simp; omega
                          have b7 : ((c.toNat : Int) == 7) = false := by simp; omega
                          have g1 : wc.cell? ⟨gx, 0, none⟩ = some (.bool true) := HGB.out.cell_eq rfl
                          have g2 := HGB.out.frozen 0
                          have HOP : Hid (opR b acc k5 (kk - k5) c.toNat (rdOf (kk + 1) 0) = _) := opR_8 k8
                          clear k0 k1 k7 k8
                          go_wp2
                          go_meet
                          have hks : Keep [gx] wc (wc.setCell ⟨gx, 0, none⟩ (.bool false)) := Keep.set1 (Keep.refl _ _)
                          have hU2 := HUA.out.keepR hks (by simpa using NoRow.blk HGB.out (by decide))
                          exact ⟨⟨kk - k5, kk + 1 - k5, c.toNat, ⟨#[]⟩, ⟨#[]⟩, ⟨#[]⟩, ⟨#[]⟩, 0, [], []⟩, false, kk + 1, 0, .slice none 0 0, .slice none 0 0, HOP.out, rfl, rfl, HPS.out.ob.keep hks (by simp; omega), HGB.out.set_ 0 _, HR.out.keepO hU2 hks (by simpa using fun h => hgxg h.symm), by omega, Nat.le_refl _, OwnS.nil _ _, OwnN.nil _ _, HKA.out.setCell (.inl (by simp)) _⟩
                      by_cases k3 : c.toNat = 3
                      · as_aux_lemma =>
                          have K3 := Lib.hid k3
                          rw [k3] at c2 HPS
                          have HT1 := Lib.hid (ltext_ps HWC.out HGC.out HKA.out HPS.out (by omega) hPm false)
                          have hf1l := tkF_le (b := b) (k := kk + 1) (n := 2) (show 0 ≤ 1000 by omega)
                          have hk1g := tkK_ge b (kk + 1) 0 2
                          have hop1 : opR b acc k5 (kk - k5) c.toNat (rdOf (kk + 1) 0) = opR b acc k5 (kk - k5) 3 (rdOf (kk + 1) 0) := by rw [k3]
                          have hop := hop1.trans (opR_3 hkb)
                          clear hop1
                          generalize tkK b (kk + 1) 0 2 = kA at *
                          generalize tkF b (kk + 1) 0 2 = fA at *
                          generalize txt b acc (kk + 1) 0 = sA at *
                          generalize txg b acc false (kk + 1) 0 = gA at *
                          have hf2l := tkF_le (b := b) (k := kA) (n := 2) hf1l
                          have hk2g := tkK_ge b kA fA 2
                          obtain ⟨kB, hkB⟩ : ∃ x, tkK b kA fA 2 = x := ⟨_, rfl⟩
                          obtain ⟨fB, hfB⟩ : ∃ x, tkF b kA fA 2 = x := ⟨_, rfl⟩
                          obtain ⟨sB, hsB⟩ : ∃ x, txt b acc kA fA = x := ⟨_, rfl⟩
                          obtain ⟨gB, hgB⟩ : ∃ x, txg b acc true kA fA = x := ⟨_, rfl⟩
                          rw [hkB, hfB, hsB, hgB] at hop
                          rw [hfB] at hf2l
                          rw [hkB] at hk2g
                          have hf3l := tkF_le (b := b) (k := kB) (n := 2) hf2l
                          have hk3g := tkK_ge b kB fB 2
                          obtain ⟨kC, hkC⟩ : ∃ x, tkK b kB fB 2 = x := ⟨_, rfl⟩
                          obtain ⟨fC, hfC⟩ : ∃ x, tkF b kB fB 2 = x := ⟨_, rfl⟩
                          obtain ⟨sC, hsC⟩ : ∃ x, txt b acc kB fB = x := ⟨_, rfl⟩
                          obtain ⟨gC, hgC⟩ : ∃ x, txg b acc true kB fB = x := ⟨_, rfl⟩
                          rw [hkC, hfC, hsC, hgC] at hop
                          rw [hfC] at hf3l
                          rw [hkC] at hk3g
                          have HE2 : Hid (tkK b kA fA 2 = kB ∧ tkF b kA fA 2 = fB ∧ txt b acc kA fA = sB ∧ txg b acc true kA fA = gB) := ⟨hkB, hfB, hsB, hgB⟩
                          have HE3 : Hid (tkK b kB fB 2 = kC ∧ tkF b kB fB 2 = fC ∧ txt b acc kB fB = sC ∧ txg b acc true kB fB = gC) := ⟨hkC, hfC, hsC, hgC⟩
                          have HOP := Lib.hid hop
                          clear k0 k1 k7 k8 k3 hop hkB hfB hsB hgB hkC hfC hsC hgC
                          have HT2 : Hid (∀ W, Keep [g, gx] wa W → ∀ gd cs, PS W mb gx g ob v b kA fA gd cs → Calls Tryz.prog 79 #[.bool true, .pointer (some ⟨rx, 0, none⟩), .pointer (some ⟨mb + 1 + 1, 0, none⟩), .pointer (some ⟨gx, 0, none⟩)] W fun e w' => e = .returned (.string sB) ∧ PS w' mb gx g ob v b kB fB (gd && gB) cs ∧ Keep [g, gx] W w') := fun W hW gd cs hp => by
                            have h := ltext_ps HWC.out HGC.out hW hp hf1l hPm true
                            rw [HE2.out.1, HE2.out.2.1, HE2.out.2.2.1, HE2.out.2.2.2] at h
                            exact h
                          have HT3 : Hid (∀ W, Keep [g, gx] wa W → ∀ gd cs, PS W mb gx g ob v b kB fB gd cs → Calls Tryz.prog 79 #[.bool true, .pointer (some ⟨rx, 0, none⟩), .pointer (some ⟨mb + 1 + 1, 0, none⟩), .pointer (some ⟨gx, 0, none⟩)] W fun e w' => e = .returned (.string sC) ∧ PS w' mb gx g ob v b kC fC (gd && gC) cs ∧ Keep [g, gx] W w') := fun W hW gd cs hp => by
                            have h := ltext_ps HWC.out HGC.out hW hp hf2l hPm true
                            rw [HE3.out.1, HE3.out.2.1, HE3.out.2.2.1, HE3.out.2.2.2] at h
                            exact h
                          go_wp2_with (first
                            | (go_at_call 79; with_reducible refine HT1.out.mono ?_; rintro e w5 ⟨rfl, hp5, hk5⟩; have HT2' := Lib.hid (HT2.out w5 (HKA.out.same hk5) _ _ hp5); have HKK5 := Lib.hid hk5; clear hp5 hk5 HT1)
                            | (go_at_call 79; with_reducible refine HT2'.out.mono ?_; rintro e w6 ⟨rfl, hp6, hk6⟩; have HT3' := Lib.hid (HT3.out w6 ((HKA.out.same HKK5.out).same hk6) _ _ hp6); have HKK6 := Lib.hid hk6; clear hp6 hk6 HT2')
                            | (go_at_call 79; with_reducible refine HT3'.out.mono ?_; rintro e w7 ⟨rfl, hp7, hk7⟩; have d4 : w7.cell? ⟨ob, 4, none⟩ = some (.string ⟨#[]⟩) := hp7.ob.cell_eq rfl; have d5 : w7.cell? ⟨ob, 5, none⟩ = some (.string ⟨#[]⟩) := hp7.ob.cell_eq rfl; have d6 : w7.cell? ⟨ob, 6, none⟩ = some (.string ⟨#[]⟩) := hp7.ob.cell_eq rfl; have d4z := hp7.ob.frozen 4; have d5z := hp7.ob.frozen 5; have d6z := hp7.ob.frozen 6; have HP7 := Lib.hid hp7; have HKK7 := Lib.hid hk7; clear hp7 hk7 HT3'))
                          go_meet
                          have hP8 := ((HP7.out.set 4 (.string sA)).set 5 (.string sB)).set 6 (.string sC)
                          have hkE : Keep [g, gx] wa w7 := ((HKA.out.same HKK5.out).same HKK6.out).same HKK7.out
                          exact ⟨⟨kk - k5, kC - k5, 3, ⟨#[]⟩, sA, sB, sC, 0, [], []⟩, gA && gB && gC, kC, fC, .slice none 0 0, .slice none 0 0, HOP.out, rfl, rfl, hP8.ob, hP8.gx, hP8.rd, hf3l, by omega, OwnS.nil _ _, OwnN.nil _ _, ((hkE.setCell (.inr hwaob) _).setCell (.inr hwaob) _).setCell (.inr hwaob) _⟩
                      by_cases k2 : c.toNat = 2
                      · as_aux_lemma =>
                          have K2 := Lib.hid k2
                          rw [k2] at c2 HPS
                          have HT1 : Hid (∀ W, Keep [] wc W → Calls Tryz.prog 79 #[.bool false, .pointer (some ⟨rx, 0, none⟩), .pointer (some ⟨mb + 1 + 1, 0, none⟩), .pointer (some ⟨gx, 0, none⟩)] W fun e w' => e = .returned (.string (txt b acc (kk + 1) 0)) ∧ PS w' mb gx g ob v b (tkK b (kk + 1) 0 2) (tkF b (kk + 1) 0 2) (true && txg b acc false (kk + 1) 0) #[.int .i64 ((kk - k5 : Nat) : Int), .int .i64 0, .int .i64 ((2 : Nat) : Int), .string ⟨#[]⟩, .string ⟨#[]⟩, .string ⟨#[]⟩, .string ⟨#[]⟩, .int .i64 0, .slice none 0 0, .slice none 0 0] ∧ Keep [g, gx] W w') := fun W hW => ltext_ps HWC.out HGC.out (HKA.out.nil hW) (HPS.out.nil hW) (by omega) hPm false
                          have hf1l := tkF_le (b := b) (k := kk + 1) (n := 2) (show 0 ≤ 1000 by omega)
                          have hk1g := tkK_ge b (kk + 1) 0 2
                          have hop1 : opR b acc k5 (kk - k5) c.toNat (rdOf (kk + 1) 0) = opR b acc k5 (kk - k5) 2 (rdOf (kk + 1) 0) := by rw [k2]
                          have hop := hop1.trans (opR_2 hkb)
                          clear hop1
                          generalize tkK b (kk + 1) 0 2 = kA at *
                          generalize tkF b (kk + 1) 0 2 = fA at *
                          generalize txt b acc (kk + 1) 0 = sA at *
                          generalize txg b acc false (kk + 1) 0 = gA at *
                          have hf2l := tkF_le (b := b) (k := kA) (n := 4) hf1l
                          have hk2g := tkK_ge b kA fA 4
                          have hnl := num32_lt b kA fA
                          have HU2 : Hid (∀ W gd cs, PS W mb gx g ob v b kA fA gd cs → Calls Tryz.prog 76 #[.pointer (some ⟨g, 0, none⟩)] W fun e w' => e = .returned (.int .u32 (numU (tkB b kA fA 4) : Nat)) ∧ PS w' mb gx g ob v b (tkK b kA fA 4) (tkF b kA fA 4) gd cs ∧ Keep [g, gx] W w') := fun W gd cs hp => u32_ps hp hf1l
                          generalize numU (tkB b kA fA 4) = nB at *
                          generalize tkK b kA fA 4 = kB at *
                          generalize tkF b kA fA 4 = fB at *
                          have hwn : IntKind.i64.wrap (nB : Int) = (nB : Int) := IntWalk.i64_in _ (by omega)
                          have HOP := Lib.hid hop
                          have r1 : wc.cell? ⟨rx, 0, none⟩ = some (.pointer (some ⟨g, 0, none⟩)) := (HWC.out.rB.keep HK1.out (by simpa using HWC.out.rB.ne_ HWC.out.rd.blk (by decide))).cell_eq rfl
                          have HRX : Hid (∀ W, Keep [g, gx, ob] wc W → W.cell? ⟨rx, 0, none⟩ = some (.pointer (some ⟨g, 0, none⟩))) := fun W hW => (hW.cell (p := ⟨rx, 0, none⟩) (show rx < wc.heap.size by have h1 := HWC.out.rB.lt; have h2 := HK1.out.size; omega) (by
                            have h1 := HWC.out.rB.ne_ HWC.out.rd.blk (by decide)
                            have h2 := HWC.out.rB.ne_ HGC.out (by decide)
                            have h3 := HWC.out.rB.lt
                            simp
                            omega)).trans r1
                          clear k0 k1 k7 k8 k3 k2 hop
                          go_upto_region 21 with fail
                          go_region_held3 (fun W => W.cell? ⟨rx, 0, none⟩ = some (.pointer (some ⟨g, 0, none⟩)))
                            (first | exact r1 | exact r5 | exact r6 | exact r7 | exact r8a | exact r8b | exact r8c | exact r8d)
                            (first
                              | (go_at_call 79; with_reducible refine (HT1.out _ (by repeat (first | with_reducible exact Keep.refl _ _ | with_reducible refine Keep.drew ?_))).mono ?_; rintro e w5 ⟨rfl, hp5, hk5⟩; have hk05 : Keep [g, gx, ob] wc w5 := Keep.trans (Keep.drew (Keep.refl [g, gx, ob] wc)) hk5 (fun x hx => .inl (by simp at hx ⊢; omega)); have r5 := HRX.out w5 hk05; have d4 : w5.cell? ⟨ob, 4, none⟩ = some (.string ⟨#[]⟩) := hp5.ob.cell_eq rfl; have d7 : w5.cell? ⟨ob, 7, none⟩ = some (.int .i64 0) := hp5.ob.cell_eq rfl; have d4z := hp5.ob.frozen 4; have d7z := hp5.ob.frozen 7; have r7 := HRX.out _ (hk05.setCell (p := ⟨ob, 4, none⟩) (.inl (by simp)) (.string sA)); have HP5 := Lib.hid hp5; have HKK5 := Lib.hid hk5; have HK05 := Lib.hid hk05; clear hp5 hk5 hk05)
                              | (go_at_call 76; with_reducible refine (HU2.out _ _ _ HP5.out).mono ?_; rintro e w6 ⟨rfl, hp6, hk6⟩; have hk06 : Keep [g, gx, ob] wc w6 := Keep.trans HK05.out hk6 (fun x hx => .inl (by simp at hx ⊢; omega)); have r6 := HRX.out w6 hk06; have r8a := HRX.out _ (hk06.setCell (p := ⟨ob, 4, none⟩) (.inl (by simp)) (.string sA)); have r8b := HRX.out _ (hk06.setCell (p := ⟨ob, 7, none⟩) (.inl (by simp)) (.int .i64 (nB : Int))); have r8c := HRX.out _ ((hk06.setCell (p := ⟨ob, 4, none⟩) (.inl (by simp)) (.string sA)).setCell (p := ⟨ob, 7, none⟩) (.inl (by simp)) (.int .i64 (nB : Int))); have r8d := HRX.out _ ((hk06.setCell (p := ⟨ob, 7, none⟩) (.inl (by simp)) (.int .i64 (nB : Int))).setCell (p := ⟨ob, 4, none⟩) (.inl (by simp)) (.string sA)); have e4 : w6.cell? ⟨ob, 4, none⟩ = some (.string ⟨#[]⟩) := hp6.ob.cell_eq rfl; have e7 : w6.cell? ⟨ob, 7, none⟩ = some (.int .i64 0) := hp6.ob.cell_eq rfl; have e4z := hp6.ob.frozen 4; have e7z := hp6.ob.frozen 7; have HP6 := Lib.hid hp6; have HKK6 := Lib.hid hk6; have HK06 := Lib.hid hk06; clear hp6 hk6 hk06))
                          all_goals
                            go_wp2_with fail
                            go_meet
                            have hkE : Keep [g, gx] wa w6 := (HKA.out.same (Keep.trans (Keep.drew (Keep.refl [g, gx] wc)) HKK5.out (fun x hx => .inl hx))).same HKK6.out
                            first
                              | (have hP8 := (HP6.out.set 4 (.string sA)).set 7 (.int .i64 (nB : Int))
                                 exact ⟨⟨kk - k5, kB - k5, 2, ⟨#[]⟩, sA, ⟨#[]⟩, ⟨#[]⟩, nB, [], []⟩, gA, kB, fB, .slice none 0 0, .slice none 0 0, HOP.out, rfl, rfl, hP8.ob, hP8.gx, hP8.rd, hf2l, by omega, OwnS.nil _ _, OwnN.nil _ _, (hkE.setCell (.inr hwaob) _).setCell (.inr hwaob) _⟩)
                              | (have hP8 := (HP6.out.set 7 (.int .i64 (nB : Int))).set 4 (.string sA)
                                 exact ⟨⟨kk - k5, kB - k5, 2, ⟨#[]⟩, sA, ⟨#[]⟩, ⟨#[]⟩, nB, [], []⟩, gA, kB, fB, .slice none 0 0, .slice none 0 0, HOP.out, rfl, rfl, hP8.ob, hP8.gx, hP8.rd, hf2l, by omega, OwnS.nil _ _, OwnN.nil _ _, (hkE.setCell (.inr hwaob) _).setCell (.inr hwaob) _⟩)
                      have k456 : c.toNat = 4 ∨ c.toNat = 5 ∨ c.toNat = 6 := by omega
                      rcases k456 with kn | kn | kn
                      all_goals
                        as_aux_lemma =>
                          have s0 : ((c.toNat : Int) == 0) = false := beq_eq_false_iff_ne.2 (by omega)
                          have s1 : ((c.toNat : Int) == 1) = false := beq_eq_false_iff_ne.2 (by omega)
                          have s2 : ((c.toNat : Int) == 2) = false := beq_eq_false_iff_ne.2 (by omega)
                          have s3 : ((c.toNat : Int) == 3) = false := beq_eq_false_iff_ne.2 (by omega)
                          have s7 : ((c.toNat : Int) == 7) = false := beq_eq_false_iff_ne.2 (by omega)
                          first
                            | have s4 : ((c.toNat : Int) == 4) = true := beq_iff_eq.2 (by omega)
                            | have s4 : ((c.toNat : Int) == 4) = false := beq_eq_false_iff_ne.2 (by omega)
                            | fail
                          first
                            | have s5 : ((c.toNat : Int) == 5) = true := beq_iff_eq.2 (by omega)
                            | have s5 : ((c.toNat : Int) == 5) = false := beq_eq_false_iff_ne.2 (by omega)
                            | fail
                          first
                            | have s6 : ((c.toNat : Int) == 6) = true := beq_iff_eq.2 (by omega)
                            | have s6 : ((c.toNat : Int) == 6) = false := beq_eq_false_iff_ne.2 (by omega)
                            | fail
                          have HT1 : Hid (∀ W, Keep [] wc W → Calls Tryz.prog 79 #[.bool false, .pointer (some ⟨rx, 0, none⟩), .pointer (some ⟨mb + 1 + 1, 0, none⟩), .pointer (some ⟨gx, 0, none⟩)] W fun e w' => e = .returned (.string (txt b acc (kk + 1) 0)) ∧ PS w' mb gx g ob v b (tkK b (kk + 1) 0 2) (tkF b (kk + 1) 0 2) (true && txg b acc false (kk + 1) 0) #[.int .i64 ((kk - k5 : Nat) : Int), .int .i64 0, .int .i64 (c.toNat : Int), .string ⟨#[]⟩, .string ⟨#[]⟩, .string ⟨#[]⟩, .string ⟨#[]⟩, .int .i64 0, .slice none 0 0, .slice none 0 0] ∧ Keep [g, gx] W w') := fun W hW => ltext_ps HWC.out HGC.out (HKA.out.nil hW) (HPS.out.nil hW) (by omega) hPm false
                          have hf1l := tkF_le (b := b) (k := kk + 1) (n := 2) (show 0 ≤ 1000 by omega)
                          have hk1g := tkK_ge b (kk + 1) 0 2
                          obtain ⟨kC, hkC⟩ : ∃ x, tkK b (tkK b (tkK b (kk + 1) 0 2) (tkF b (kk + 1) 0 2) 4) (tkF b (tkK b (kk + 1) 0 2) (tkF b (kk + 1) 0 2) 4) 2 = x := ⟨_, rfl⟩
                          obtain ⟨fC, hfC⟩ : ∃ x, tkF b (tkK b (tkK b (kk + 1) 0 2) (tkF b (kk + 1) 0 2) 4) (tkF b (tkK b (kk + 1) 0 2) (tkF b (kk + 1) 0 2) 4) 2 = x := ⟨_, rfl⟩
                          have hop : ∀ {ks : List ByteArray} {ts : List Nat} {gE : Bool} {kE fE : Nat}, keyR b acc (numU (tkB b (tkK b (tkK b (kk + 1) 0 2) (tkF b (kk + 1) 0 2) 4) (tkF b (tkK b (kk + 1) 0 2) (tkF b (kk + 1) 0 2) 4) 2)) [] [] (txg b acc false (kk + 1) 0) (rdOf kC fC) = (ks, ts, gE, rdOf kE fE) → opR b acc k5 (kk - k5) c.toNat (rdOf (kk + 1) 0) = (⟨kk - k5, kE - k5, c.toNat, ⟨#[]⟩, txt b acc (kk + 1) 0, ⟨#[]⟩, ⟨#[]⟩, numU (tkB b (tkK b (kk + 1) 0 2) (tkF b (kk + 1) 0 2) 4), ks, ts⟩, gE, rdOf kE fE) := fun hy => opR_456 hkb (by omega) rfl rfl rfl rfl hkC hfC hy
                          generalize tkK b (kk + 1) 0 2 = kA at *
                          generalize tkF b (kk + 1) 0 2 = fA at *
                          generalize txt b acc (kk + 1) 0 = sA at *
                          generalize txg b acc false (kk + 1) 0 = gA at *
                          have hf2l := tkF_le (b := b) (k := kA) (n := 4) hf1l
                          have hk2g := tkK_ge b kA fA 4
                          have hnl := num32_lt b kA fA
                          have HU2 : Hid (∀ W gd cs, PS W mb gx g ob v b kA fA gd cs → Calls Tryz.prog 76 #[.pointer (some ⟨g, 0, none⟩)] W fun e w' => e = .returned (.int .u32 (numU (tkB b kA fA 4) : Nat)) ∧ PS w' mb gx g ob v b (tkK b kA fA 4) (tkF b kA fA 4) gd cs ∧ Keep [g, gx] W w') := fun W gd cs hp => u32_ps hp hf1l
                          have hf3l := tkF_le (b := b) (k := tkK b kA fA 4) (n := 2) hf2l
                          have hk3g := tkK_ge b (tkK b kA fA 4) (tkF b kA fA 4) 2
                          have hnl3 := num16_lt b (tkK b kA fA 4) (tkF b kA fA 4)
                          have HU3 : Hid (∀ W gd cs, PS W mb gx g ob v b (tkK b kA fA 4) (tkF b kA fA 4) gd cs → Calls Tryz.prog 73 #[.pointer (some ⟨g, 0, none⟩)] W fun e w' => e = .returned (.int .u16 (numU (tkB b (tkK b kA fA 4) (tkF b kA fA 4) 2) : Nat)) ∧ PS w' mb gx g ob v b (tkK b (tkK b kA fA 4) (tkF b kA fA 4) 2) (tkF b (tkK b kA fA 4) (tkF b kA fA 4) 2) gd cs ∧ Keep [g, gx] W w') := fun W gd cs hp => u16_ps hp hf2l
                          rw [hkC, hfC] at HU3
                          rw [hfC] at hf3l
                          rw [hkC] at hk3g
                          generalize numU (tkB b kA fA 4) = nB at *
                          generalize tkK b kA fA 4 = kB at *
                          generalize tkF b kA fA 4 = fB at *
                          generalize numU (tkB b kB fB 2) = nC at *
                          have hwn : IntKind.i64.wrap (nB : Int) = (nB : Int) := IntWalk.i64_in _ (by omega)
                          have HOP : Hid (∀ (ks : List ByteArray) (ts : List Nat) (gE : Bool) (kE fE : Nat), keyR b acc nC [] [] gA (rdOf kC fC) = (ks, ts, gE, rdOf kE fE) → opR b acc k5 (kk - k5) c.toNat (rdOf (kk + 1) 0) = (⟨kk - k5, kE - k5, c.toNat, ⟨#[]⟩, sA, ⟨#[]⟩, ⟨#[]⟩, nB, ks, ts⟩, gE, rdOf kE fE)) := fun ks ts gE kE fE hy => hop hy
                          have r1 : wc.cell? ⟨rx, 0, none⟩ = some (.pointer (some ⟨g, 0, none⟩)) := (HWC.out.rB.keep HK1.out (by simpa using HWC.out.rB.ne_ HWC.out.rd.blk (by decide))).cell_eq rfl
                          have HRX : Hid (∀ W, Keep [g, gx, ob] wc W → W.cell? ⟨rx, 0, none⟩ = some (.pointer (some ⟨g, 0, none⟩))) := fun W hW => (hW.cell (p := ⟨rx, 0, none⟩) (show rx < wc.heap.size by have h1 := HWC.out.rB.lt; have h2 := HK1.out.size; omega) (by
                            have h1 := HWC.out.rB.ne_ HWC.out.rd.blk (by decide)
                            have h2 := HWC.out.rB.ne_ HGC.out (by decide)
                            have h3 := HWC.out.rB.lt
                            simp
                            omega)).trans r1
                          clear k0 k1 k7 k8 k3 k2 kn hop hkC hfC
                          go_upto_region 27 with fail
                          go_cut [] (fun W => PS W mb gx g ob v b kB fB gA #[.int .i64 ((kk - k5 : Nat) : Int), .int .i64 0, .int .i64 (c.toNat : Int), .string ⟨#[]⟩, .string sA, .string ⟨#[]⟩, .string ⟨#[]⟩, .int .i64 (nB : Int), .slice none 0 0, .slice none 0 0] ∧ Keep [g, gx] wa W)
                          case first =>
                            go_region_held3 (fun W => W.cell? ⟨rx, 0, none⟩ = some (.pointer (some ⟨g, 0, none⟩)))
                              (first | exact r1 | exact r5 | exact r6 | exact r7 | exact r8a | exact r8b | exact r8c | exact r8d)
                              (first
                                | (go_at_call 79; with_reducible refine (HT1.out _ (by repeat (first | with_reducible exact Keep.refl _ _ | with_reducible refine Keep.drew ?_))).mono ?_; rintro e w5 ⟨rfl, hp5, hk5⟩; have hk05 : Keep [g, gx, ob] wc w5 := Keep.trans (Keep.drew (Keep.refl [g, gx, ob] wc)) hk5 (fun x hx => .inl (by simp at hx ⊢; omega)); have r5 := HRX.out w5 hk05; have d4 : w5.cell? ⟨ob, 4, none⟩ = some (.string ⟨#[]⟩) := hp5.ob.cell_eq rfl; have d7 : w5.cell? ⟨ob, 7, none⟩ = some (.int .i64 0) := hp5.ob.cell_eq rfl; have d4z := hp5.ob.frozen 4; have d7z := hp5.ob.frozen 7; have r7 := HRX.out _ (hk05.setCell (p := ⟨ob, 4, none⟩) (.inl (by simp)) (.string sA)); have HP5 := Lib.hid hp5; have HKK5 := Lib.hid hk5; have HK05 := Lib.hid hk05; clear hp5 hk5 hk05)
                                | (go_at_call 76; with_reducible refine (HU2.out _ _ _ HP5.out).mono ?_; rintro e w6 ⟨rfl, hp6, hk6⟩; have hk06 : Keep [g, gx, ob] wc w6 := Keep.trans HK05.out hk6 (fun x hx => .inl (by simp at hx ⊢; omega)); have r6 := HRX.out w6 hk06; have r8a := HRX.out _ (hk06.setCell (p := ⟨ob, 4, none⟩) (.inl (by simp)) (.string sA)); have r8b := HRX.out _ (hk06.setCell (p := ⟨ob, 7, none⟩) (.inl (by simp)) (.int .i64 (nB : Int))); have r8c := HRX.out _ ((hk06.setCell (p := ⟨ob, 4, none⟩) (.inl (by simp)) (.string sA)).setCell (p := ⟨ob, 7, none⟩) (.inl (by simp)) (.int .i64 (nB : Int))); have r8d := HRX.out _ ((hk06.setCell (p := ⟨ob, 7, none⟩) (.inl (by simp)) (.int .i64 (nB : Int))).setCell (p := ⟨ob, 4, none⟩) (.inl (by simp)) (.string sA)); have e4 : w6.cell? ⟨ob, 4, none⟩ = some (.string ⟨#[]⟩) := hp6.ob.cell_eq rfl; have e7 : w6.cell? ⟨ob, 7, none⟩ = some (.int .i64 0) := hp6.ob.cell_eq rfl; have e4z := hp6.ob.frozen 4; have e7z := hp6.ob.frozen 7; have HP6 := Lib.hid hp6; have HKK6 := Lib.hid hk6; have HK06 := Lib.hid hk06; clear hp6 hk6 hk06))
                            all_goals
                              go_wp2_with fail
                              go_meet
                              have hkE : Keep [g, gx] wa w6 := (HKA.out.same (Keep.trans (Keep.drew (Keep.refl [g, gx] wc)) HKK5.out (fun x hx => .inl hx))).same HKK6.out
                              first
                                | exact ⟨(HP6.out.set 4 (.string sA)).set 7 (.int .i64 (nB : Int)), (hkE.setCell (.inr hwaob) _).setCell (.inr hwaob) _⟩
                                | exact ⟨(HP6.out.set 7 (.int .i64 (nB : Int))).set 4 (.string sA), (hkE.setCell (.inr hwaob) _).setCell (.inr hwaob) _⟩
                          case rest =>
                            obtain ⟨hq, hKq⟩ := hcut
                            have HQ := Lib.hid hq
                            have HKQ := Lib.hid hKq
                            have HRXA : Hid (∀ W, Keep [g, gx] wa W → W.cell? ⟨rx, 0, none⟩ = some (.pointer (some ⟨g, 0, none⟩))) := fun W hW => (HWC.out.rB.keep hW (by
                              have h1 := HWC.out.rB.ne_ HWC.out.rd.blk (by decide)
                              have h2 := HWC.out.rB.ne_ HGC.out (by decide)
                              simp
                              omega)).cell_eq rfl
                            clear r1
                            have r1 : wc.cell? ⟨rx, 0, none⟩ = some (.pointer (some ⟨g, 0, none⟩)) := HRXA.out wc hKq
                            have HUC := Lib.hid (HU3.out wc _ _ hq)
                            obtain ⟨TK, hTK⟩ : ∃ TK, keyR b acc nC [] [] gA (rdOf kC fC) = TK := ⟨_, rfl⟩
                            have HTK := Lib.hid hTK
                            clear hq hKq HT1 HU2 HU3 hTK HRX
                            go_wp2_with (go_at_call 73; refine HUC.out.mono ?_; rintro e w5 ⟨rfl, hp5, hk5⟩; have HP5 := Lib.hid hp5; have HKK5 := Lib.hid hk5; clear hp5 hk5)
                            have hobw5 : ob + 1 ≤ w5.heap.size := HP5.out.ob.lt
                            go_loopw [12] (fun nv wr => ∃ (n kD fD : Nat) (ks : List ByteArray) (ts : List Nat) (gE : Bool) (kv tv : Value), nv = .int .u16 n ∧ PS wr mb gx g ob v b kD fD gE #[.int .i64 ((kk - k5 : Nat) : Int), .int .i64 0, .int .i64 (c.toNat : Int), .string ⟨#[]⟩, .string sA, .string ⟨#[]⟩, .string ⟨#[]⟩, .int .i64 (nB : Int), kv, tv] ∧ OwnS wr (ob + 1) kv ks ∧ OwnN wr (ob + 1) tv ts ∧ fD ≤ 1000 ∧ kB ≤ kD ∧ ks.length + n ≤ 65535 ∧ ts.length = ks.length ∧ Keep [g, gx] wa wr ∧ keyR b acc n ks ts gE (rdOf kD fD) = TK) (fun nv _ => (intOf nv).toNat)
                            case atStart => exact ⟨nC, kC, fC, [], [], gA, .slice none 0 0, .slice none 0 0, rfl, HP5.out, OwnS.nil _ _, OwnN.nil _ _, hf3l, hk3g, by simp; omega, rfl, HKQ.out.same HKK5.out, HTK.out⟩
                            case round =>
                              obtain ⟨n, kD, fD, ks, ts, gE, kv, tv, rfl, hp, hks, hts, hfD, hkD, hnl2, hkt, hKr, hkey⟩ := hrel
                              have hkvf := hks.form
                              have htvf := hts.form
                              obtain ⟨KA, kc, rfl⟩ := hkvf
                              obtain ⟨TA, tc, rfl⟩ := htvf
                              have HPd := Lib.hid hp
                              have HKSd := Lib.hid hks
                              have HTSd := Lib.hid hts
                              have HKR := Lib.hid hKr
                              have HKEY := Lib.hid hkey
                              have HKT := Lib.hid hkt
                              have HEd := Lib.hid (oerr_any wr g v b kD fD hp.rd)
                              have hksl : ks.length ≤ 1000000000 := by omega
                              have htsl : ts.length ≤ 1000000000 := by omega
                              clear r1
                              have r1 : wr.cell? ⟨rx, 0, none⟩ = some (.pointer (some ⟨g, 0, none⟩)) := HRXA.out wr hKr
                              obtain ⟨cb2, hcb2⟩ : ∃ cb, (decide (0 < n) && decide (fD = 0)) = cb := ⟨_, rfl⟩
                              have HCB2 := Lib.hid hcb2
                              clear hp hks hts hKr hkey hkt hcb2
                              go_upto_region 29 with fail
                              go_cut [128] (fun c W => c = .bool cb2 ∧ W = wr)
                              case first =>
                                by_cases hn : n = 0
                                · subst hn
                                  go_wp2
                                  go_meet
                                  exact ⟨by rw [← HCB2.out]; rfl, rfl⟩
                                · by_cases hf0 : fD = 0
                                  · subst hf0
                                    have hn' : (0 : Int) < (n : Int) := by omega
                                    have HN := Lib.hid hn
                                    clear hn
                                    go_wp2_with (go_at_call 74; refine HEd.out.mono ?_; rintro e w5 ⟨rfl, rfl⟩)
                                    go_meet
                                    exact ⟨by rw [← HCB2.out]; simp; have := HN.out; omega, rfl⟩
                                  · have hn' : (0 : Int) < (n : Int) := by omega
                                    have hf1 : ((fD : Int) == 0) = false := by simp; omega
                                    have HN := Lib.hid hn
                                    have HF := Lib.hid hf0
                                    clear hn hf0
                                    go_wp2_with (go_at_call 74; refine HEd.out.mono ?_; rintro e w5 ⟨rfl, rfl⟩)
                                    go_meet
                                    exact ⟨by rw [← HCB2.out]; have := HF.out; simp [this], rfl⟩
                              case rest =>
                                obtain ⟨rfl, rfl⟩ := hcut
                                cases cb2 with
                                | false =>
                                  have hTK : TK = (ks, ts, gE, rdOf kD fD) := by
                                    have hc := HCB2.out
                                    rw [← HKEY.out]
                                    cases n with
                                    | zero => rfl
                                    | succ n' => rw [keyR_step HPd.out.rd.le, if_pos (by simpa using hc)]
                                  have hkF := HOP.out ks ts gE kD fD (HTK.out.trans hTK)
                                  have HKF := Lib.hid hkF
                                  clear hkF hTK
                                  go_wp2_with fail
                                  go_meet
                                  exact ⟨⟨kk - k5, kD - k5, c.toNat, ⟨#[]⟩, sA, ⟨#[]⟩, ⟨#[]⟩, nB, ks, ts⟩, gE, kD, fD, _, _, HKF.out, rfl, rfl, HPd.out.ob, HPd.out.gx, HPd.out.rd, hfD, by omega, HKSd.out, HTSd.out, HKR.out⟩
                                | true =>
                                  obtain ⟨hn1, hf1⟩ : 0 < n ∧ fD = 0 := by have := HCB2.out; simpa using this
                                  subst hf1
                                  obtain ⟨n', rfl⟩ : ∃ n', n = n' + 1 := ⟨n - 1, by omega⟩
                                  have hstep := HKEY.out
                                  rw [keyR_step HPd.out.rd.le, if_neg (by simp)] at hstep
                                  have HT31 : Hid (∀ W, Keep [] wc W → Calls Tryz.prog 79 #[.bool false, .pointer (some ⟨rx, 0, none⟩), .pointer (some ⟨mb + 1 + 1, 0, none⟩), .pointer (some ⟨gx, 0, none⟩)] W fun e w' => e = .returned (.string (txt b acc kD 0)) ∧ PS w' mb gx g ob v b (tkK b kD 0 2) (tkF b kD 0 2) (gE && txg b acc false kD 0) #[.int .i64 ((kk - k5 : Nat) : Int), .int .i64 0, .int .i64 (c.toNat : Int), .string ⟨#[]⟩, .string sA, .string ⟨#[]⟩, .string ⟨#[]⟩, .int .i64 (nB : Int), .slice KA ks.length kc, .slice TA ts.length tc] ∧ Keep [g, gx] W w') := fun W hW => ltext_ps HWC.out HGC.out (HKR.out.nil hW) (HPd.out.nil hW) (by omega) hPm false
                                  have hfEl := tkF_le (b := b) (k := kD) (n := 2) (show 0 ≤ 1000 by omega)
                                  have hkEg := tkK_ge b kD 0 2
                                  generalize tkK b kD 0 2 = kE at *
                                  generalize tkF b kD 0 2 = fE at *
                                  generalize txt b acc kD 0 = s1 at *
                                  generalize txg b acc false kD 0 = g1 at *
                                  have hfFl := tkF_le (b := b) (k := kE) (n := 4) hfEl
                                  have hkFg := tkK_ge b kE fE 4
                                  have hn32 := num32_lt b kE fE
                                  have HU32 : Hid (∀ W gd cs, PS W mb gx g ob v b kE fE gd cs → Calls Tryz.prog 76 #[.pointer (some ⟨g, 0, none⟩)] W fun e w' => e = .returned (.int .u32 (numU (tkB b kE fE 4) : Nat)) ∧ PS w' mb gx g ob v b (tkK b kE fE 4) (tkF b kE fE 4) gd cs ∧ Keep [g, gx] W w') := fun W gd cs hp => u32_ps hp hfEl
                                  generalize numU (tkB b kE fE 4) = n1 at *
                                  generalize tkK b kE fE 4 = kF at *
                                  generalize tkF b kE fE 4 = fF at *
                                  have hwn1 : IntKind.i64.wrap (n1 : Int) = (n1 : Int) := IntWalk.i64_in _ (by omega)
                                  have HSTEP2 := Lib.hid hstep
                                  obtain ⟨zz, hzz⟩ : ∃ z : Int, ((n' + 1 : Nat) : Int) = z := ⟨_, rfl⟩
                                  rw [hzz]
                                  have HZZ := Lib.hid hzz
                                  have hz1 : IntKind.u16.wrap (zz - 1) = (n' : Int) := by rw [IntKind.wrap_u16]; omega
                                  have hz2 : (zz - 1) % 65536 = (n' : Int) := by omega
                                  have d0 : wc.cell? ⟨ob, 8, none⟩ = some (.slice KA ks.length kc) := HPd.out.ob.cell_eq rfl
                                  have z0 : wc.frozen? ⟨ob, 8, none⟩ = false := HPd.out.ob.frozen 8
                                  clear hstep hzz r1
                                  go_upto_region 31 with fail
                                  go_cut [] (fun W => ∃ kv', PS W mb gx g ob v b kE fE (gE && g1) #[.int .i64 ((kk - k5 : Nat) : Int), .int .i64 0, .int .i64 (c.toNat : Int), .string ⟨#[]⟩, .string sA, .string ⟨#[]⟩, .string ⟨#[]⟩, .int .i64 (nB : Int), kv', .slice TA ts.length tc] ∧ OwnS W (ob + 1) kv' (ks ++ [s1]) ∧ OwnN W (ob + 1) (.slice TA ts.length tc) ts ∧ Keep [g, gx] wa W)
                                  case first =>
                                    (refine wp_region_noPanic ?_; refine wp_region_held_drew (S := (fun W => W.frozen? ⟨ob, 8, none⟩ = false)) (by kernel_rfl) ?_ (fun hHeld => ?_); (· (first | exact z0 | exact z5 | exact z5a | exact z6 | exact z7)); refine wpAnyH_take (i := 0) (v := ?_) rfl (by kernel_rfl) (by kernel_rfl) (by kernel_rfl) (fun _ _ _ h => h) (Or.inl ⟨by rfl, ?_⟩) (by assumption) ?_; rotate_left; (· (intro w hSw; go_simp; try with_reducible rfl)); refine wpAnyH_take (i := 2) (v := ?_) rfl (by kernel_rfl) (by kernel_rfl) (by kernel_rfl) (fun _ _ _ h => h) (Or.inl ⟨by rfl, ?_⟩) (by assumption) ?_; rotate_left; (· (intro w hSw; go_simp; try with_reducible rfl)); refine wpAnyH_ready (rs := [1, 3]) (by kernel_rfl) (by simp) ?_; refine AllReadyH.cons rfl (fun K hK => ?_) ?_; go_simp; refine hK.out _ _ ?_ (fun hHeld => ?_); (· (first | exact z0 | exact z5 | exact z5a | exact z6 | exact z7)); clear hK K; refine wpAnyH_ready (rs := [3]) (by kernel_rfl) (by simp) ?_; refine AllReadyH.cons rfl (fun K hK => ?_) ?_; go_simp; (first | (go_at_call 79; with_reducible refine (HT31.out _ (by repeat (first | with_reducible exact Keep.refl _ _ | with_reducible refine Keep.drew ?_))).mono ?_; rintro e w5 ⟨rfl, hp5, hk5⟩; have hk05 : Keep [g, gx] wc w5 := Keep.trans (Keep.drew (Keep.refl [g, gx] wc)) hk5 (fun x hx => .inl hx); have d5 : w5.cell? ⟨ob, 8, none⟩ = some (.slice KA ks.length kc) := hp5.ob.cell_eq rfl; have z5 := hp5.ob.frozen 8; have hp5a := hp5.nil ((Keep.refl [] w5).alloc (.cells #[.string s1] 9)); have d5a : (w5.alloc (.cells #[.string s1] 9)).cell? ⟨ob, 8, none⟩ = some (.slice KA ks.length kc) := hp5a.ob.cell_eq rfl; have z5a := hp5a.ob.frozen 8; have HKS5 := Lib.hid (HKSd.out.keepR hk05 HPd.out.norow); have HTS5 := Lib.hid (HTSd.out.keepR hk05 HPd.out.norow); have hob5 : ob + 1 ≤ w5.heap.size := Nat.succ_le_of_lt hp5.ob.lt; have HP5 := Lib.hid hp5; have HK05 := Lib.hid hk05; clear hp5 hp5a hk5 hk05) | fail); refine hK.out _ _ ?_ (fun hHeld => ?_); (· (first | exact z0 | exact z5 | exact z5a | exact z6 | exact z7)); clear hK K; refine wpAnyH_ready (rs := [4]) (by kernel_rfl) (by simp) ?_; refine AllReadyH.cons rfl (fun K hK => ?_) ?_; go_simp; refine hK.out _ _ ?_ (fun hHeld => ?_); (· (first | exact z0 | exact z5 | exact z5a | exact z6 | exact z7)); clear hK K; refine wpAnyH_ready (rs := [5]) (by kernel_rfl) (by simp) ?_; refine AllReadyH.cons rfl (fun K hK => ?_) ?_; (first | (refine step_append_t (by rfl) _ _ (by rfl) (by rfl) HKS5.out s1 _ rfl (by rfl) hksl hob5 ?_; intro A6 cap6 w6 ho6 hk6; have hp6 := HP5.out.rowS HKS5.out hk6; have hts6 : OwnN w6 (ob + 1) (.slice TA ts.length tc) ts := HTS5.out.keep hk6 (own_own_ne HTS5.out HKS5.out (by decide)); have d6 : w6.cell? ⟨ob, 8, none⟩ = some (.slice KA ks.length kc) := hp6.ob.cell_eq rfl; have z6 := hp6.ob.frozen 8; have hp7 := hp6.set 8 (.slice A6 (ks.length + 1) cap6); have z7 := hp7.ob.frozen 8; have HP7 := Lib.hid hp7; have HKS7 := Lib.hid (ho6.setO 8 (.slice A6 (ks.length + 1) cap6)); have HTS7 := Lib.hid (hts6.setO 8 (.slice A6 (ks.length + 1) cap6)); have HK6 := Lib.hid hk6; clear hp6 hp7 hts6 ho6 hk6) | fail); refine hK.out _ _ ?_ (fun hHeld => ?_); (· (first | exact z0 | exact z5 | exact z5a | exact z6 | exact z7)); clear hK K; refine wpAnyH_take (i := 6) (v := ?_) rfl (by kernel_rfl) (by kernel_rfl) (by kernel_rfl) (fun _ _ _ h => h) (Or.inl ⟨by rfl, ?_⟩) (by assumption) ?_; rotate_left; (· (intro w hSw; go_simp; try with_reducible rfl)); refine wpAnyH_ready (rs := [7]) (by kernel_rfl) (by simp) ?_; refine AllReadyH.cons rfl (fun K hK => ?_) ?_; go_simp; refine hK.out _ _ ?_ (fun hHeld => ?_); (· (first | exact z0 | exact z5 | exact z5a | exact z6 | exact z7)); clear hK K; refine wpAnyH_done (by kernel_rfl) ?_ _; refine NoPanic.normal ?_; rotate_left; exact AllReadyH.nil; exact AllReadyH.nil; exact AllReadyH.nil; exact AllReadyH.nil; refine AllReadyH.cons rfl (fun K hK => ?_) ?_; go_simp; (first | (go_at_call 79; with_reducible refine (HT31.out _ (by repeat (first | with_reducible exact Keep.refl _ _ | with_reducible refine Keep.drew ?_))).mono ?_; rintro e w5 ⟨rfl, hp5, hk5⟩; have hk05 : Keep [g, gx] wc w5 := Keep.trans (Keep.drew (Keep.refl [g, gx] wc)) hk5 (fun x hx => .inl hx); have d5 : w5.cell? ⟨ob, 8, none⟩ = some (.slice KA ks.length kc) := hp5.ob.cell_eq rfl; have z5 := hp5.ob.frozen 8; have hp5a := hp5.nil ((Keep.refl [] w5).alloc (.cells #[.string s1] 9)); have d5a : (w5.alloc (.cells #[.string s1] 9)).cell? ⟨ob, 8, none⟩ = some (.slice KA ks.length kc) := hp5a.ob.cell_eq rfl; have z5a := hp5a.ob.frozen 8; have HKS5 := Lib.hid (HKSd.out.keepR hk05 HPd.out.norow); have HTS5 := Lib.hid (HTSd.out.keepR hk05 HPd.out.norow); have hob5 : ob + 1 ≤ w5.heap.size := Nat.succ_le_of_lt hp5.ob.lt; have HP5 := Lib.hid hp5; have HK05 := Lib.hid hk05; clear hp5 hp5a hk5 hk05) | fail); refine hK.out _ _ ?_ (fun hHeld => ?_); (· (first | exact z0 | exact z5 | exact z5a | exact z6 | exact z7)); clear hK K; refine wpAnyH_ready (rs := [1, 4]) (by kernel_rfl) (by simp) ?_; refine AllReadyH.cons rfl (fun K hK => ?_) ?_; go_simp; refine hK.out _ _ ?_ (fun hHeld => ?_); (· (first | exact z0 | exact z5 | exact z5a | exact z6 | exact z7)); clear hK K; refine wpAnyH_ready (rs := [4]) (by kernel_rfl) (by simp) ?_; refine AllReadyH.cons rfl (fun K hK => ?_) ?_; go_simp; refine hK.out _ _ ?_ (fun hHeld => ?_); (· (first | exact z0 | exact z5 | exact z5a | exact z6 | exact z7)); clear hK K; refine wpAnyH_ready (rs := [5]) (by kernel_rfl) (by simp) ?_; refine AllReadyH.cons rfl (fun K hK => ?_) ?_; (first | (refine step_append_t (by rfl) _ _ (by rfl) (by rfl) HKS5.out s1 _ rfl (by rfl) hksl hob5 ?_; intro A6 cap6 w6 ho6 hk6; have hp6 := HP5.out.rowS HKS5.out hk6; have hts6 : OwnN w6 (ob + 1) (.slice TA ts.length tc) ts := HTS5.out.keep hk6 (own_own_ne HTS5.out HKS5.out (by decide)); have d6 : w6.cell? ⟨ob, 8, none⟩ = some (.slice KA ks.length kc) := hp6.ob.cell_eq rfl; have z6 := hp6.ob.frozen 8; have hp7 := hp6.set 8 (.slice A6 (ks.length + 1) cap6); have z7 := hp7.ob.frozen 8; have HP7 := Lib.hid hp7; have HKS7 := Lib.hid (ho6.setO 8 (.slice A6 (ks.length + 1) cap6)); have HTS7 := Lib.hid (hts6.setO 8 (.slice A6 (ks.length + 1) cap6)); have HK6 := Lib.hid hk6; clear hp6 hp7 hts6 ho6 hk6) | fail); refine hK.out _ _ ?_ (fun hHeld => ?_); (· (first | exact z0 | exact z5 | exact z5a | exact z6 | exact z7)); clear hK K; refine wpAnyH_take (i := 6) (v := ?_) rfl (by kernel_rfl) (by kernel_rfl) (by kernel_rfl) (fun _ _ _ h => h) (Or.inl ⟨by rfl, ?_⟩) (by assumption) ?_; rotate_left; (· (intro w hSw; go_simp; try with_reducible rfl)); refine wpAnyH_ready (rs := [7]) (by kernel_rfl) (by simp) ?_; refine AllReadyH.cons rfl (fun K hK => ?_) ?_; go_simp; refine hK.out _ _ ?_ (fun hHeld => ?_); (· (first | exact z0 | exact z5 | exact z5a | exact z6 | exact z7)); clear hK K; refine wpAnyH_done (by kernel_rfl) ?_ _; refine NoPanic.normal ?_; rotate_left; exact AllReadyH.nil; exact AllReadyH.nil; exact AllReadyH.nil; refine AllReadyH.cons rfl (fun K hK => ?_) ?_; go_simp; refine hK.out _ _ ?_ (fun hHeld => ?_); (· (first | exact z0 | exact z5 | exact z5a | exact z6 | exact z7)); clear hK K; refine wpAnyH_ready (rs := [1]) (by kernel_rfl) (by simp) ?_; refine AllReadyH.cons rfl (fun K hK => ?_) ?_; go_simp; refine hK.out _ _ ?_ (fun hHeld => ?_); (· (first | exact z0 | exact z5 | exact z5a | exact z6 | exact z7)); clear hK K; refine wpAnyH_ready (rs := [5]) (by kernel_rfl) (by simp) ?_; refine AllReadyH.cons rfl (fun K hK => ?_) ?_; (first | (refine step_append_t (by rfl) _ _ (by rfl) (by rfl) HKS5.out s1 _ rfl (by rfl) hksl hob5 ?_; intro A6 cap6 w6 ho6 hk6; have hp6 := HP5.out.rowS HKS5.out hk6; have hts6 : OwnN w6 (ob + 1) (.slice TA ts.length tc) ts := HTS5.out.keep hk6 (own_own_ne HTS5.out HKS5.out (by decide)); have d6 : w6.cell? ⟨ob, 8, none⟩ = some (.slice KA ks.length kc) := hp6.ob.cell_eq rfl; have z6 := hp6.ob.frozen 8; have hp7 := hp6.set 8 (.slice A6 (ks.length + 1) cap6); have z7 := hp7.ob.frozen 8; have HP7 := Lib.hid hp7; have HKS7 := Lib.hid (ho6.setO 8 (.slice A6 (ks.length + 1) cap6)); have HTS7 := Lib.hid (hts6.setO 8 (.slice A6 (ks.length + 1) cap6)); have HK6 := Lib.hid hk6; clear hp6 hp7 hts6 ho6 hk6) | fail); refine hK.out _ _ ?_ (fun hHeld => ?_); (· (first | exact z0 | exact z5 | exact z5a | exact z6 | exact z7)); clear hK K; refine wpAnyH_take (i := 6) (v := ?_) rfl (by kernel_rfl) (by kernel_rfl) (by kernel_rfl) (fun _ _ _ h => h) (Or.inl ⟨by rfl, ?_⟩) (by assumption) ?_; rotate_left; (· (intro w hSw; go_simp; try with_reducible rfl)); refine wpAnyH_ready (rs := [7]) (by kernel_rfl) (by simp) ?_; refine AllReadyH.cons rfl (fun K hK => ?_) ?_; go_simp; refine hK.out _ _ ?_ (fun hHeld => ?_); (· (first | exact z0 | exact z5 | exact z5a | exact z6 | exact z7)); clear hK K; refine wpAnyH_done (by kernel_rfl) ?_ _; refine NoPanic.normal ?_; rotate_left; exact AllReadyH.nil; exact AllReadyH.nil; exact AllReadyH.nil; exact AllReadyH.nil; exact AllReadyH.nil)
                                    all_goals
                                      go_wp2_with fail
                                      go_meet
                                      exact ⟨_, HP7.out, HKS7.out, HTS7.out, ((HKR.out.same HK05.out).trans HK6.out (fun x hx => .inr (by have := (HKS5.out.lt x hx).1; omega))).setCell (.inr hwaob) _⟩
                                  case rest =>
                                    obtain ⟨kv', hp8, hks8, hts8, hk8⟩ := hcut
                                    have r1 : wc.cell? ⟨rx, 0, none⟩ = some (.pointer (some ⟨g, 0, none⟩)) := HRXA.out wc hk8
                                    clear d0 z0
                                    have d0 : wc.cell? ⟨ob, 9, none⟩ = some (.slice TA ts.length tc) := hp8.ob.cell_eq rfl
                                    have z0 : wc.frozen? ⟨ob, 9, none⟩ = false := hp8.ob.frozen 9
                                    have HU9 : Hid (∀ W, Keep [] wc W → Calls Tryz.prog 76 #[.pointer (some ⟨g, 0, none⟩)] W fun e w' => e = .returned (.int .u32 (n1 : Nat)) ∧ PS w' mb gx g ob v b kF fF (gE && g1) #[.int .i64 ((kk - k5 : Nat) : Int), .int .i64 0, .int .i64 (c.toNat : Int), .string ⟨#[]⟩, .string sA, .string ⟨#[]⟩, .string ⟨#[]⟩, .int .i64 (nB : Int), kv', .slice TA ts.length tc] ∧ Keep [g, gx] W w') := fun W hW => HU32.out W _ _ (hp8.nil hW)
                                    have HP8 := Lib.hid hp8
                                    have HKS8 := Lib.hid hks8
                                    have HTS8 := Lib.hid hts8
                                    have HK8 := Lib.hid hk8
                                    clear hp8 hks8 hts8 hk8 HT31 HU32
                                    go_upto_region 32 with fail
                                    (refine wp_region_noPanic ?_; refine wp_region_held_drew (S := (fun W => W.cell? ⟨rx, 0, none⟩ = some (.pointer (some ⟨g, 0, none⟩)) ∧ W.frozen? ⟨ob, 9, none⟩ = false)) (by kernel_rfl) ?_ (fun hHeld => ?_); (· (first | exact ⟨r1, z0⟩ | exact ⟨r5, z5⟩ | exact ⟨r5a, z5a⟩ | exact ⟨r6, z6⟩ | exact ⟨r7, z7⟩)); refine wpAnyH_take (i := 0) (v := ?_) rfl (by kernel_rfl) (by kernel_rfl) (by kernel_rfl) (fun _ _ _ h => h) (Or.inl ⟨by rfl, ?_⟩) (by assumption) ?_; rotate_left; (· (intro w hSw; go_simp; try with_reducible rfl)); refine wpAnyH_take (i := 2) (v := ?_) rfl (by kernel_rfl) (by kernel_rfl) (by kernel_rfl) (fun _ _ _ h => h) (Or.inl ⟨by rfl, ?_⟩) (by assumption) ?_; rotate_left; (· (intro w hSw; go_simp; try with_reducible rfl)); refine wpAnyH_ready (rs := [1, 3]) (by kernel_rfl) (by simp) ?_; refine AllReadyH.cons rfl (fun K hK => ?_) ?_; go_simp; refine hK.out _ _ ?_ (fun hHeld => ?_); (· (first | exact ⟨r1, z0⟩ | exact ⟨r5, z5⟩ | exact ⟨r5a, z5a⟩ | exact ⟨r6, z6⟩ | exact ⟨r7, z7⟩)); clear hK K; refine wpAnyH_ready (rs := [3]) (by kernel_rfl) (by simp) ?_; refine AllReadyH.cons rfl (fun K hK => ?_) ?_; go_simp; (first | (go_at_call 76; with_reducible refine (HU9.out _ (by repeat (first | with_reducible exact Keep.refl _ _ | with_reducible refine Keep.drew ?_))).mono ?_; rintro e w5 ⟨rfl, hp5, hk5⟩; have hk05 : Keep [g, gx] wc w5 := Keep.trans (Keep.drew (Keep.refl [g, gx] wc)) hk5 (fun x hx => .inl hx); have hka5 := HK8.out.same hk05; have d5 : w5.cell? ⟨ob, 9, none⟩ = some (.slice TA ts.length tc) := hp5.ob.cell_eq rfl; have z5 := hp5.ob.frozen 9; have r5 := HRXA.out w5 hka5; have hp5a := hp5.nil ((Keep.refl [] w5).alloc (.cells #[.int .i64 (n1 : Int)] 3)); have d5a : (w5.alloc (.cells #[.int .i64 (n1 : Int)] 3)).cell? ⟨ob, 9, none⟩ = some (.slice TA ts.length tc) := hp5a.ob.cell_eq rfl; have z5a := hp5a.ob.frozen 9; have r5a := HRXA.out _ (hka5.alloc (.cells #[.int .i64 (n1 : Int)] 3)); have HKS5 := Lib.hid (HKS8.out.keepR hk05 HP8.out.norow); have HTS5 := Lib.hid (HTS8.out.keepR hk05 HP8.out.norow); have hob5 : ob + 1 ≤ w5.heap.size := Nat.succ_le_of_lt hp5.ob.lt; have HP5 := Lib.hid hp5; have HKA5 := Lib.hid hka5; clear hp5 hp5a hk5 hk05 hka5) | fail); refine hK.out _ _ ?_ (fun hHeld => ?_); (· (first | exact ⟨r1, z0⟩ | exact ⟨r5, z5⟩ | exact ⟨r5a, z5a⟩ | exact ⟨r6, z6⟩ | exact ⟨r7, z7⟩)); clear hK K; refine wpAnyH_take (i := 4) (v := ?_) rfl (by kernel_rfl) (by kernel_rfl) (by kernel_rfl) (fun _ _ _ h => h) (Or.inl ⟨by rfl, ?_⟩) (by assumption) ?_; rotate_left; (· (intro w hSw; go_simp; try with_reducible rfl)); refine wpAnyH_ready (rs := [5]) (by kernel_rfl) (by simp) ?_; refine AllReadyH.cons rfl (fun K hK => ?_) ?_; go_simp; refine hK.out _ _ ?_ (fun hHeld => ?_); (· (first | exact ⟨r1, z0⟩ | exact ⟨r5, z5⟩ | exact ⟨r5a, z5a⟩ | exact ⟨r6, z6⟩ | exact ⟨r7, z7⟩)); clear hK K; refine wpAnyH_ready (rs := [6]) (by kernel_rfl) (by simp) ?_; refine AllReadyH.cons rfl (fun K hK => ?_) ?_; (first | (refine step_append_n (by rfl) _ _ (by rfl) (by rfl) HTS5.out n1 _ rfl (by rfl) htsl hob5 ?_; intro A6 cap6 w6 ho6 hk6; have hp6 := HP5.out.rowN HTS5.out hk6; have hks6 : OwnS w6 (ob + 1) kv' (ks ++ [s1]) := HKS5.out.keep hk6 (own_own_ne HKS5.out HTS5.out (by decide)); have hka6 : Keep [g, gx] wa w6 := HKA5.out.trans hk6 (fun x hx => .inr (by have := (HTS5.out.lt x hx).1; omega)); have d6 : w6.cell? ⟨ob, 9, none⟩ = some (.slice TA ts.length tc) := hp6.ob.cell_eq rfl; have z6 := hp6.ob.frozen 9; have r6 := HRXA.out w6 hka6; have hp7 := hp6.set 9 (.slice A6 (ts.length + 1) cap6); have z7 := hp7.ob.frozen 9; have hka7 := hka6.setCell (p := ⟨ob, 9, none⟩) (.inr hwaob) (.slice A6 (ts.length + 1) cap6); have r7 := HRXA.out _ hka7; have HP7 := Lib.hid hp7; have HKS7 := Lib.hid (hks6.setO 9 (.slice A6 (ts.length + 1) cap6)); have HTS7 := Lib.hid (ho6.setO 9 (.slice A6 (ts.length + 1) cap6)); have HKA7 := Lib.hid hka7; clear hp6 hp7 hks6 ho6 hk6 hka6 hka7) | fail); refine hK.out _ _ ?_ (fun hHeld => ?_); (· (first | exact ⟨r1, z0⟩ | exact ⟨r5, z5⟩ | exact ⟨r5a, z5a⟩ | exact ⟨r6, z6⟩ | exact ⟨r7, z7⟩)); clear hK K; refine wpAnyH_take (i := 7) (v := ?_) rfl (by kernel_rfl) (by kernel_rfl) (by kernel_rfl) (fun _ _ _ h => h) (Or.inl ⟨by rfl, ?_⟩) (by assumption) ?_; rotate_left; (· (intro w hSw; go_simp; try with_reducible rfl)); refine wpAnyH_ready (rs := [8]) (by kernel_rfl) (by simp) ?_; refine AllReadyH.cons rfl (fun K hK => ?_) ?_; go_simp; refine hK.out _ _ ?_ (fun hHeld => ?_); (· (first | exact ⟨r1, z0⟩ | exact ⟨r5, z5⟩ | exact ⟨r5a, z5a⟩ | exact ⟨r6, z6⟩ | exact ⟨r7, z7⟩)); clear hK K; refine wpAnyH_done (by kernel_rfl) ?_ _; refine NoPanic.normal ?_; rotate_left; exact AllReadyH.nil; exact AllReadyH.nil; exact AllReadyH.nil; exact AllReadyH.nil; refine AllReadyH.cons rfl (fun K hK => ?_) ?_; go_simp; (first | (go_at_call 76; with_reducible refine (HU9.out _ (by repeat (first | with_reducible exact Keep.refl _ _ | with_reducible refine Keep.drew ?_))).mono ?_; rintro e w5 ⟨rfl, hp5, hk5⟩; have hk05 : Keep [g, gx] wc w5 := Keep.trans (Keep.drew (Keep.refl [g, gx] wc)) hk5 (fun x hx => .inl hx); have hka5 := HK8.out.same hk05; have d5 : w5.cell? ⟨ob, 9, none⟩ = some (.slice TA ts.length tc) := hp5.ob.cell_eq rfl; have z5 := hp5.ob.frozen 9; have r5 := HRXA.out w5 hka5; have hp5a := hp5.nil ((Keep.refl [] w5).alloc (.cells #[.int .i64 (n1 : Int)] 3)); have d5a : (w5.alloc (.cells #[.int .i64 (n1 : Int)] 3)).cell? ⟨ob, 9, none⟩ = some (.slice TA ts.length tc) := hp5a.ob.cell_eq rfl; have z5a := hp5a.ob.frozen 9; have r5a := HRXA.out _ (hka5.alloc (.cells #[.int .i64 (n1 : Int)] 3)); have HKS5 := Lib.hid (HKS8.out.keepR hk05 HP8.out.norow); have HTS5 := Lib.hid (HTS8.out.keepR hk05 HP8.out.norow); have hob5 : ob + 1 ≤ w5.heap.size := Nat.succ_le_of_lt hp5.ob.lt; have HP5 := Lib.hid hp5; have HKA5 := Lib.hid hka5; clear hp5 hp5a hk5 hk05 hka5) | fail); refine hK.out _ _ ?_ (fun hHeld => ?_); (· (first | exact ⟨r1, z0⟩ | exact ⟨r5, z5⟩ | exact ⟨r5a, z5a⟩ | exact ⟨r6, z6⟩ | exact ⟨r7, z7⟩)); clear hK K; refine wpAnyH_take (i := 4) (v := ?_) rfl (by kernel_rfl) (by kernel_rfl) (by kernel_rfl) (fun _ _ _ h => h) (Or.inl ⟨by rfl, ?_⟩) (by assumption) ?_; rotate_left; (· (intro w hSw; go_simp; try with_reducible rfl)); refine wpAnyH_ready (rs := [1, 5]) (by kernel_rfl) (by simp) ?_; refine AllReadyH.cons rfl (fun K hK => ?_) ?_; go_simp; refine hK.out _ _ ?_ (fun hHeld => ?_); (· (first | exact ⟨r1, z0⟩ | exact ⟨r5, z5⟩ | exact ⟨r5a, z5a⟩ | exact ⟨r6, z6⟩ | exact ⟨r7, z7⟩)); clear hK K; refine wpAnyH_ready (rs := [5]) (by kernel_rfl) (by simp) ?_; refine AllReadyH.cons rfl (fun K hK => ?_) ?_; go_simp; refine hK.out _ _ ?_ (fun hHeld => ?_); (· (first | exact ⟨r1, z0⟩ | exact ⟨r5, z5⟩ | exact ⟨r5a, z5a⟩ | exact ⟨r6, z6⟩ | exact ⟨r7, z7⟩)); clear hK K; refine wpAnyH_ready (rs := [6]) (by kernel_rfl) (by simp) ?_; refine AllReadyH.cons rfl (fun K hK => ?_) ?_; (first | (refine step_append_n (by rfl) _ _ (by rfl) (by rfl) HTS5.out n1 _ rfl (by rfl) htsl hob5 ?_; intro A6 cap6 w6 ho6 hk6; have hp6 := HP5.out.rowN HTS5.out hk6; have hks6 : OwnS w6 (ob + 1) kv' (ks ++ [s1]) := HKS5.out.keep hk6 (own_own_ne HKS5.out HTS5.out (by decide)); have hka6 : Keep [g, gx] wa w6 := HKA5.out.trans hk6 (fun x hx => .inr (by have := (HTS5.out.lt x hx).1; omega)); have d6 : w6.cell? ⟨ob, 9, none⟩ = some (.slice TA ts.length tc) := hp6.ob.cell_eq rfl; have z6 := hp6.ob.frozen 9; have r6 := HRXA.out w6 hka6; have hp7 := hp6.set 9 (.slice A6 (ts.length + 1) cap6); have z7 := hp7.ob.frozen 9; have hka7 := hka6.setCell (p := ⟨ob, 9, none⟩) (.inr hwaob) (.slice A6 (ts.length + 1) cap6); have r7 := HRXA.out _ hka7; have HP7 := Lib.hid hp7; have HKS7 := Lib.hid (hks6.setO 9 (.slice A6 (ts.length + 1) cap6)); have HTS7 := Lib.hid (ho6.setO 9 (.slice A6 (ts.length + 1) cap6)); have HKA7 := Lib.hid hka7; clear hp6 hp7 hks6 ho6 hk6 hka6 hka7) | fail); refine hK.out _ _ ?_ (fun hHeld => ?_); (· (first | exact ⟨r1, z0⟩ | exact ⟨r5, z5⟩ | exact ⟨r5a, z5a⟩ | exact ⟨r6, z6⟩ | exact ⟨r7, z7⟩)); clear hK K; refine wpAnyH_take (i := 7) (v := ?_) rfl (by kernel_rfl) (by kernel_rfl) (by kernel_rfl) (fun _ _ _ h => h) (Or.inl ⟨by rfl, ?_⟩) (by assumption) ?_; rotate_left; (· (intro w hSw; go_simp; try with_reducible rfl)); refine wpAnyH_ready (rs := [8]) (by kernel_rfl) (by simp) ?_; refine AllReadyH.cons rfl (fun K hK => ?_) ?_; go_simp; refine hK.out _ _ ?_ (fun hHeld => ?_); (· (first | exact ⟨r1, z0⟩ | exact ⟨r5, z5⟩ | exact ⟨r5a, z5a⟩ | exact ⟨r6, z6⟩ | exact ⟨r7, z7⟩)); clear hK K; refine wpAnyH_done (by kernel_rfl) ?_ _; refine NoPanic.normal ?_; rotate_left; exact AllReadyH.nil; exact AllReadyH.nil; exact AllReadyH.nil; refine AllReadyH.cons rfl (fun K hK => ?_) ?_; go_simp; refine hK.out _ _ ?_ (fun hHeld => ?_); (· (first | exact ⟨r1, z0⟩ | exact ⟨r5, z5⟩ | exact ⟨r5a, z5a⟩ | exact ⟨r6, z6⟩ | exact ⟨r7, z7⟩)); clear hK K; refine wpAnyH_ready (rs := [1]) (by kernel_rfl) (by simp) ?_; refine AllReadyH.cons rfl (fun K hK => ?_) ?_; go_simp; refine hK.out _ _ ?_ (fun hHeld => ?_); (· (first | exact ⟨r1, z0⟩ | exact ⟨r5, z5⟩ | exact ⟨r5a, z5a⟩ | exact ⟨r6, z6⟩ | exact ⟨r7, z7⟩)); clear hK K; refine wpAnyH_ready (rs := [6]) (by kernel_rfl) (by simp) ?_; refine AllReadyH.cons rfl (fun K hK => ?_) ?_; (first | (refine step_append_n (by rfl) _ _ (by rfl) (by rfl) HTS5.out n1 _ rfl (by rfl) htsl hob5 ?_; intro A6 cap6 w6 ho6 hk6; have hp6 := HP5.out.rowN HTS5.out hk6; have hks6 : OwnS w6 (ob + 1) kv' (ks ++ [s1]) := HKS5.out.keep hk6 (own_own_ne HKS5.out HTS5.out (by decide)); have hka6 : Keep [g, gx] wa w6 := HKA5.out.trans hk6 (fun x hx => .inr (by have := (HTS5.out.lt x hx).1; omega)); have d6 : w6.cell? ⟨ob, 9, none⟩ = some (.slice TA ts.length tc) := hp6.ob.cell_eq rfl; have z6 := hp6.ob.frozen 9; have r6 := HRXA.out w6 hka6; have hp7 := hp6.set 9 (.slice A6 (ts.length + 1) cap6); have z7 := hp7.ob.frozen 9; have hka7 := hka6.setCell (p := ⟨ob, 9, none⟩) (.inr hwaob) (.slice A6 (ts.length + 1) cap6); have r7 := HRXA.out _ hka7; have HP7 := Lib.hid hp7; have HKS7 := Lib.hid (hks6.setO 9 (.slice A6 (ts.length + 1) cap6)); have HTS7 := Lib.hid (ho6.setO 9 (.slice A6 (ts.length + 1) cap6)); have HKA7 := Lib.hid hka7; clear hp6 hp7 hks6 ho6 hk6 hka6 hka7) | fail); refine hK.out _ _ ?_ (fun hHeld => ?_); (· (first | exact ⟨r1, z0⟩ | exact ⟨r5, z5⟩ | exact ⟨r5a, z5a⟩ | exact ⟨r6, z6⟩ | exact ⟨r7, z7⟩)); clear hK K; refine wpAnyH_take (i := 7) (v := ?_) rfl (by kernel_rfl) (by kernel_rfl) (by kernel_rfl) (fun _ _ _ h => h) (Or.inl ⟨by rfl, ?_⟩) (by assumption) ?_; rotate_left; (· (intro w hSw; go_simp; try with_reducible rfl)); refine wpAnyH_ready (rs := [8]) (by kernel_rfl) (by simp) ?_; refine AllReadyH.cons rfl (fun K hK => ?_) ?_; go_simp; refine hK.out _ _ ?_ (fun hHeld => ?_); (· (first | exact ⟨r1, z0⟩ | exact ⟨r5, z5⟩ | exact ⟨r5a, z5a⟩ | exact ⟨r6, z6⟩ | exact ⟨r7, z7⟩)); clear hK K; refine wpAnyH_done (by kernel_rfl) ?_ _; refine NoPanic.normal ?_; rotate_left; exact AllReadyH.nil; exact AllReadyH.nil; exact AllReadyH.nil; exact AllReadyH.nil; exact AllReadyH.nil)
                                    all_goals
                                      go_wp2
                                      have hzz := HZZ.out
                                      subst hzz
                                      go_roundw
                                      case rel => exact ⟨n', kF, fF, ks ++ [s1], ts ++ [n1], gE && g1, _, _, by go_num, HP7.out, HKS7.out, HTS7.out, hfFl, by omega, by simp; omega, by have := HKT.out; simp; omega, HKA7.out, HSTEP2.out⟩
                                      case measure => first | (simp [intOf]; done) | (simp [intOf]; omega)
                    case rest =>
                      obtain ⟨o, gd', k', f', kv, tv, hop, hoa, hon, hB', hG', hR', hf', hkk', hkv, htv, hKW⟩ := hcut
                      have hbs : ∀ x ∈ [g, gx], x = g ∨ ∃ c, Blk wa x 4 c := fun x hx => by
                        simp only [List.mem_cons, List.mem_nil_iff, or_false] at hx
                        rcases hx with rfl | rfl
                        · exact .inl rfl
                        · exact .inr ⟨_, HGC.out⟩
                      have hWn := HWC.out.go hKW hbs hR'
                      have hpw : PS wc mb gx g ob v b k' f' gd' _ := ⟨hB', hG', hR', hWn.bO⟩
                      have hp35 := hpw.set 1 (.int .i64 ((k' - k5 : Nat) : Int))
                      have HAT35 := Lib.hid (oat_any wc g v b k' f' hR')
                      have hkl' := hR'.le
                      have hwk : IntKind.i64.wrap ((k' : Int) - (k5 : Int)) = ((k' - k5 : Nat) : Int) := by rw [IntKind.wrap_i64]; omega
                      have hwk2 : wrap64 ((k' : Int) - (k5 : Int)) = ((k' - k5 : Nat) : Int) := by unfold wrap64; omega
                      have r1 : wc.cell? ⟨rx, 0, none⟩ = some (.pointer (some ⟨g, 0, none⟩)) := hWn.rB.cell_eq rfl
                      have e1 : wc.cell? ⟨ob, 1, none⟩ = some (.int .i64 0) := hB'.cell_eq rfl
                      have z1 := hB'.frozen 1
                      have hK35 : Keep [g, gx] wa (wc.setCell ⟨ob, 1, none⟩ (.int .i64 ((k' - k5 : Nat) : Int))) := hKW.setCell (.inr hwaob) _
                      have hks35 := hkv.setO 1 (.int .i64 ((k' - k5 : Nat) : Int))
                      have hts35 := htv.setO 1 (.int .i64 ((k' - k5 : Nat) : Int))
                      have hb35 : Blk (wc.setCell ⟨ob, 1, none⟩ (.int .i64 ((k' - k5 : Nat) : Int))) ob 36 (o.cells (kv, tv)).toArray := by
                        have h := hp35.ob
                        rw [← hon] at h ⊢
                        exact h
                      have HHOP := Lib.hid hop
                      have HHOA := Lib.hid hoa
                      have HHON := Lib.hid hon
                      clear hop hoa hon hB' hG' hkv htv hpw hWn hR' c2
                      go_upto_region 36 with (go_at_call 78; refine HAT35.out.mono ?_; rintro e w5 ⟨rfl, rfl⟩)
                      generalize wc.setCell ⟨ob, 1, none⟩ (.int .i64 ((k' - k5 : Nat) : Int)) = W35 at *
                      have hW35 := HWC.out.go hK35 hbs hp35.rd
                      obtain ⟨OA, oc, rfl⟩ := hW35.oO.form
                      obtain ⟨l1, -, -, -, -, x1, x2⟩ := hW35.cells
                      have a0 : W35.cell? ⟨ob, 0, none⟩ = some (.int .i64 (o.at_ : Int)) := hb35.cell_eq rfl
                      have HMd := Lib.hid (hW35.mO.keep (bs := []) (Keep.drew (Keep.refl [] W35)) (by simp))
                      have hoaf : o.at_ ≤ 1000000000 := by have := HHOA.out; omega
                      have hopl : ops.length ≤ 1000000000 := by omega
                      have HW35 := Lib.hid hW35
                      have HP35 := Lib.hid hp35
                      have HB35 := Lib.hid hb35
                      have HS35 := Lib.hid hks35
                      have HT35 := Lib.hid hts35
                      have HK35 := Lib.hid hK35
                      clear hW35 hp35 hb35 hks35 hts35 hK35 r1 e1 z1 hwk hwk2 hbs hKW
                      refine region_tail 11 (by kernel_rfl) (by kernel_rfl) ?_
                      simp only [List.take_succ_cons, List.take_zero, List.drop_succ_cons, List.drop_zero]
                      repeat still_step
                      refine wpStill_nil ?_
                      go_upto_region 37 with (at_mapUpdate; refine wpList_putN rfl _ _ _ rfl HMd.out rfl o.at_ rfl ops.length rfl hoaf hopl hopl ?_; intro w36 hm36 hk36; have HM36 := Lib.hid hm36; have HK36 := Lib.hid hk36; clear hm36 hk36)
                      have hnm : ∀ x ∈ [mb], NoRow W35.drew x := by simpa using NoRow.map HMd.out
                      have hmq : ∀ {t : TypeId} {cs : Array Value} {y : Nat}, Blk W35 y t cs → Blk w36 y t cs := fun hy => (Blk.drew hy).keep HK36.out (fun hc => by simp at hc; exact ownMapN_ne HMd.out (Blk.drew hy) hc.symm)
                      have hk35d : Keep [] W35 W35.drew := Keep.drew (Keep.refl [] W35)
                      have ho36 := (HW35.out.oO.keepR hk35d (by simp)).keepR HK36.out hnm
                      have hs36 := (HS35.out.keepR hk35d (by simp)).keepR HK36.out hnm
                      have ht36 := (HT35.out.keepR hk35d (by simp)).keepR HK36.out hnm
                      obtain ⟨KV, vc, hkvf⟩ := hs36.form
                      obtain ⟨TV, tc2, htvf⟩ := ht36.form
                      subst hkvf; subst htvf
                      have hbA : Blk w36.drew ob 36 (o.cells (.slice KV o.ks.length vc, .slice TV o.ts.length tc2)).toArray := Blk.drew (hmq HB35.out)
                      have hlA := Blk.drew (hmq HW35.out.lB)
                      have hxA := Blk.drew (hmq HW35.out.xB)
                      obtain ⟨wB, hwB⟩ : ∃ wB, (w36.alloc (.cells #[.int .i64 (o.at_ : Int), .int .i64 (o.nx : Int), .int .i64 (o.k : Int), .string o.tx, .string o.nm, .string o.ty, .string o.st, .int .i64 (o.off : Int), .slice KV o.ks.length vc, .slice TV o.ts.length tc2] 36)).drew = wB := ⟨_, rfl⟩
                      have hkB : Keep [] w36 wB := by rw [← hwB]; exact Keep.drew ((Keep.refl [] w36).alloc _)
                      have hXB : Blk wB w36.heap.size 36 (o.cells (.slice KV o.ks.length vc, .slice TV o.ts.length tc2)).toArray := by rw [← hwB]; exact Blk.drew (Blk.new _ _ _)
                      have hbB := (hmq HB35.out).keep hkB (by simp)
                      have hlB := (hmq HW35.out.lB).keep hkB (by simp)
                      have hxB := (hmq HW35.out.xB).keep hkB (by simp)
                      have hoB := ho36.keepR hkB (by simp)
                      have hmbo : mb ≤ ob + 1 := by have := HWC.out.le; omega
                      have hsB := (hs36.keepR hkB (by simp)).le hmbo
                      have htB := (ht36.keepR hkB (by simp)).le hmbo
                      have hmB := HM36.out.keep hkB (by simp)
                      have hk0 : Keep [mb] W35 wB := (Keep.trans (Keep.drew (Keep.refl [mb] W35)) HK36.out (fun x hx => .inl hx)).nil hkB
                      have hBB : mb ≤ wB.heap.size := Nat.le_trans HW35.out.le hk0.size
                      have hovl := HWC.out.oO.lt
                      have hxo : ob ≠ mb + 1 := hbB.ne_ hxB (by decide)
                      have x1A : w36.drew.cell? ⟨mb + 1, 1, none⟩ = some (.slice OA ops.length oc) := hxA.cell_eq rfl
                      have x1B : (w36.alloc (.cells #[.int .i64 (o.at_ : Int), .int .i64 (o.nx : Int), .int .i64 (o.k : Int), .string o.tx, .string o.nm, .string o.ty, .string o.st, .int .i64 (o.off : Int), .slice KV o.ks.length vc, .slice TV o.ts.length tc2] 36)).drew.cell? ⟨mb + 1, 1, none⟩ = some (.slice OA ops.length oc) := by rw [hwB]; exact hxB.cell_eq rfl
                      have HGF : Hid (∀ w7 (u7 : Value), Keep (Value.slice OA ops.length oc).ownBlock.toList wB w7 → Blk (w7.setCell ⟨mb + 1, 1, none⟩ u7) gx 4 #[.bool gd'] ∧ Blk w7 (mb + 1 + 1) 72 #[.pointer (some ⟨mb + 1, 0, none⟩)] ∧ Blk w7 (mb + 1) 77 #[pv, .slice OA ops.length oc, .map (some mb)] ∧ Blk w7 ob 36 (o.cells (.slice KV o.ks.length vc, .slice TV o.ts.length tc2)).toArray ∧ Blk (w7.setCell ⟨mb + 1, 1, none⟩ u7) ob 36 (o.cells (.slice KV o.ks.length vc, .slice TV o.ts.length tc2)).toArray) := fun w7 u7 hk7 => by
                        have hgB := (hmq HP35.out.gx).keep hkB (by simp)
                        have h1 := hgB.keep hk7 (hoB.ne hgB (by decide))
                        have h2 := hxB.keep hk7 (hoB.ne hxB (by decide))
                        have h3 := hbB.keep hk7 (fun hc => by have := (hovl ob hc).2; omega)
                        have hks : Keep [mb + 1] w7 (w7.setCell ⟨mb + 1, 1, none⟩ u7) := Keep.set1 (Keep.refl _ _)
                        exact ⟨h1.keep hks (by simpa using h1.ne_ h2 (by decide)), hlB.keep hk7 (hoB.ne hlB (by decide)), h2, h3, h3.keep hks (by simpa using hxo)⟩
                      have HBa := Lib.hid hbA
                      have HLa := Lib.hid hlA
                      have HXa := Lib.hid hxA
                      have HXB := Lib.hid hXB
                      have HBb := Lib.hid hbB
                      have HLb := Lib.hid hlB
                      have HXb := Lib.hid hxB
                      have HOB := Lib.hid hoB
                      have HSB := Lib.hid hsB
                      have HTB := Lib.hid htB
                      have HMB2 := Lib.hid hmB
                      have HK0 := Lib.hid hk0
                      have HOVL := Lib.hid hovl
                      have HWB := Lib.hid hwB
                      clear hbA hlA hxA hXB hbB hlB hxB hoB hsB htB hmB hk0 hkB hwB hovl ho36 hs36 ht36 hmq hnm hk35d l1 x1 x2 a0
                      (refine wp_region_noPanic ?_; refine wp_region_held_drew (S := (fun W => W.cell? ⟨mb + 1 + 1, 0, none⟩ = some (.pointer (some ⟨mb + 1, 0, none⟩)) ∧ W.frozen? ⟨mb + 1, 1, none⟩ = false ∧ W.cell? ⟨ob, 0, none⟩ = some (.int .i64 (o.at_ : Int)) ∧ W.cell? ⟨ob, 1, none⟩ = some (.int .i64 (o.nx : Int)) ∧ W.cell? ⟨ob, 2, none⟩ = some (.int .i64 (o.k : Int)) ∧ W.cell? ⟨ob, 3, none⟩ = some (.string o.tx) ∧ W.cell? ⟨ob, 4, none⟩ = some (.string o.nm) ∧ W.cell? ⟨ob, 5, none⟩ = some (.string o.ty) ∧ W.cell? ⟨ob, 6, none⟩ = some (.string o.st) ∧ W.cell? ⟨ob, 7, none⟩ = some (.int .i64 (o.off : Int)) ∧ W.cell? ⟨ob, 8, none⟩ = some (.slice KV o.ks.length vc) ∧ W.cell? ⟨ob, 9, none⟩ = some (.slice TV o.ts.length tc2))) (by kernel_rfl) ?_ (fun hHeld => ?_); (· (first | exact s37 HLa.out HXa.out HBa.out | (rw [HWB.out]; exact s37 HLb.out HXb.out HBb.out) | exact s37 hl7.out hx7.out hb7.out | exact s37 hlF.out hxF.out hbF.out)); refine wpAnyH_take (i := 0) (v := ?_) rfl (by kernel_rfl) (by kernel_rfl) (by kernel_rfl) (fun _ _ _ h => h) (Or.inl ⟨by rfl, ?_⟩) (by assumption) ?_; rotate_left; (· (intro w hSw; go_simp; try with_reducible rfl)); refine wpAnyH_take (i := 1) (v := ?_) rfl (by kernel_rfl) (by kernel_rfl) (by kernel_rfl) (fun _ _ _ h => h) (Or.inl ⟨by rfl, ?_⟩) (by assumption) ?_; rotate_left; (· (intro w hSw; go_simp; try with_reducible rfl)); refine wpAnyH_take (i := 2) (v := ?_) rfl (by kernel_rfl) (by kernel_rfl) (by kernel_rfl) (fun _ _ _ h => h) (Or.inl ⟨by rfl, ?_⟩) (by assumption) ?_; rotate_left; (· (intro w hSw; go_simp; try with_reducible rfl)); refine wpAnyH_take (i := 3) (v := ?_) rfl (by kernel_rfl) (by kernel_rfl) (by kernel_rfl) (fun _ _ _ h => h) (Or.inl ⟨by rfl, ?_⟩) (by assumption) ?_; rotate_left; (· (intro w hSw; go_simp; try with_reducible rfl)); refine wpAnyH_take (i := 5) (v := ?_) rfl (by kernel_rfl) (by kernel_rfl) (by kernel_rfl) (fun _ _ _ h => h) (Or.inl ⟨by rfl, ?_⟩) (by assumption) ?_; rotate_left; (· (intro w hSw; go_simp; try with_reducible rfl)); refine wpAnyH_ready (rs := [4, 6]) (by kernel_rfl) (by simp) ?_; refine AllReadyH.cons rfl (fun K hK => ?_) ?_; go_simp; refine hK.out _ _ ?_ (fun hHeld => ?_); (· (first | exact s37 HLa.out HXa.out HBa.out | (rw [HWB.out]; exact s37 HLb.out HXb.out HBb.out) | exact s37 hl7.out hx7.out hb7.out | exact s37 hlF.out hxF.out hbF.out)); clear hK K; refine wpAnyH_ready (rs := [6]) (by kernel_rfl) (by simp) ?_; refine AllReadyH.cons rfl (fun K hK => ?_) ?_; go_simp; refine hK.out _ _ ?_ (fun hHeld => ?_); (· (first | exact s37 HLa.out HXa.out HBa.out | (rw [HWB.out]; exact s37 HLb.out HXb.out HBb.out) | exact s37 hl7.out hx7.out hb7.out | exact s37 hlF.out hxF.out hbF.out)); clear hK K; refine wpAnyH_ready (rs := [7]) (by kernel_rfl) (by simp) ?_; refine AllReadyH.cons rfl (fun K hK => ?_) ?_; (first | (rw [HWB.out]; refine step_append_op2 (by rfl) _ _ (by rfl) (by rfl) HOB.out w36.heap.size o (.slice KV o.ks.length vc, .slice TV o.ts.length tc2) HXB.out (by rfl) HSB.out HTB.out hopl hBB ?_; intro A7 cap7 w7 ho7 hk7; obtain ⟨hgF, h7a, h7b, h7c, hFb⟩ := HGF.out w7 (.slice A7 (ops.length + 1) cap7) hk7; have hF := LW.op HW35.out HK0.out HMB2.out hk7 ho7; have d7 : w7.cell? ⟨mb + 1, 1, none⟩ = some (.slice OA ops.length oc) := h7b.cell_eq rfl; have d7z := h7b.frozen 1; have hl7 := Lib.hid h7a; have hx7 := Lib.hid h7b; have hb7 := Lib.hid h7c; have hlF := Lib.hid hF.1.lB; have hxF := Lib.hid hF.1.xB; have hbF := Lib.hid hFb; have HF := Lib.hid hF; have HGFF := Lib.hid hgF; clear hgF h7a h7b h7c hFb hF ho7 hk7) | fail); refine hK.out _ _ ?_ (fun hHeld => ?_); (· (first | exact s37 HLa.out HXa.out HBa.out | (rw [HWB.out]; exact s37 HLb.out HXb.out HBb.out) | exact s37 hl7.out hx7.out hb7.out | exact s37 hlF.out hxF.out hbF.out)); clear hK K; refine wpAnyH_take (i := 8) (v := ?_) rfl (by kernel_rfl) (by kernel_rfl) (by kernel_rfl) (fun _ _ _ h => h) (Or.inl ⟨by rfl, ?_⟩) (by assumption) ?_; rotate_left; (· (intro w hSw; go_simp; try with_reducible rfl)); refine wpAnyH_take (i := 9) (v := ?_) rfl (by kernel_rfl) (by kernel_rfl) (by kernel_rfl) (fun _ _ _ h => h) (Or.inl ⟨by rfl, ?_⟩) (by assumption) ?_; rotate_left; (· (intro w hSw; go_simp; try with_reducible rfl)); refine wpAnyH_ready (rs := [10]) (by kernel_rfl) (by simp) ?_; refine AllReadyH.cons rfl (fun K hK => ?_) ?_; go_simp; refine hK.out _ _ ?_ (fun hHeld => ?_); (· (first | exact s37 HLa.out HXa.out HBa.out | (rw [HWB.out]; exact s37 HLb.out HXb.out HBb.out) | exact s37 hl7.out hx7.out hb7.out | exact s37 hlF.out hxF.out hbF.out)); clear hK K; refine wpAnyH_done (by kernel_rfl) ?_ _; refine NoPanic.normal ?_; rotate_left; exact AllReadyH.nil; exact AllReadyH.nil; exact AllReadyH.nil; refine AllReadyH.cons rfl (fun K hK => ?_) ?_; go_simp; refine hK.out _ _ ?_ (fun hHeld => ?_); (· (first | exact s37 HLa.out HXa.out HBa.out | (rw [HWB.out]; exact s37 HLb.out HXb.out HBb.out) | exact s37 hl7.out hx7.out hb7.out | exact s37 hlF.out hxF.out hbF.out)); clear hK K; refine wpAnyH_ready (rs := [4]) (by kernel_rfl) (by simp) ?_; refine AllReadyH.cons rfl (fun K hK => ?_) ?_; go_simp; refine hK.out _ _ ?_ (fun hHeld => ?_); (· (first | exact s37 HLa.out HXa.out HBa.out | (rw [HWB.out]; exact s37 HLb.out HXb.out HBb.out) | exact s37 hl7.out hx7.out hb7.out | exact s37 hlF.out hxF.out hbF.out)); clear hK K; refine wpAnyH_ready (rs := [7]) (by kernel_rfl) (by simp) ?_; refine AllReadyH.cons rfl (fun K hK => ?_) ?_; (first | (rw [HWB.out]; refine step_append_op2 (by rfl) _ _ (by rfl) (by rfl) HOB.out w36.heap.size o (.slice KV o.ks.length vc, .slice TV o.ts.length tc2) HXB.out (by rfl) HSB.out HTB.out hopl hBB ?_; intro A7 cap7 w7 ho7 hk7; obtain ⟨hgF, h7a, h7b, h7c, hFb⟩ := HGF.out w7 (.slice A7 (ops.length + 1) cap7) hk7; have hF := LW.op HW35.out HK0.out HMB2.out hk7 ho7; have d7 : w7.cell? ⟨mb + 1, 1, none⟩ = some (.slice OA ops.length oc) := h7b.cell_eq rfl; have d7z := h7b.frozen 1; have hl7 := Lib.hid h7a; have hx7 := Lib.hid h7b; have hb7 := Lib.hid h7c; have hlF := Lib.hid hF.1.lB; have hxF := Lib.hid hF.1.xB; have hbF := Lib.hid hFb; have HF := Lib.hid hF; have HGFF := Lib.hid hgF; clear hgF h7a h7b h7c hFb hF ho7 hk7) | fail); refine hK.out _ _ ?_ (fun hHeld => ?_); (· (first | exact s37 HLa.out HXa.out HBa.out | (rw [HWB.out]; exact s37 HLb.out HXb.out HBb.out) | exact s37 hl7.out hx7.out hb7.out | exact s37 hlF.out hxF.out hbF.out)); clear hK K; refine wpAnyH_take (i := 8) (v := ?_) rfl (by kernel_rfl) (by kernel_rfl) (by kernel_rfl) (fun _ _ _ h => h) (Or.inl ⟨by rfl, ?_⟩) (by assumption) ?_; rotate_left; (· (intro w hSw; go_simp; try with_reducible rfl)); refine wpAnyH_take (i := 9) (v := ?_) rfl (by kernel_rfl) (by kernel_rfl) (by kernel_rfl) (fun _ _ _ h => h) (Or.inl ⟨by rfl, ?_⟩) (by assumption) ?_; rotate_left; (· (intro w hSw; go_simp; try with_reducible rfl)); refine wpAnyH_ready (rs := [10]) (by kernel_rfl) (by simp) ?_; refine AllReadyH.cons rfl (fun K hK => ?_) ?_; go_simp; refine hK.out _ _ ?_ (fun hHeld => ?_); (· (first | exact s37 HLa.out HXa.out HBa.out | (rw [HWB.out]; exact s37 HLb.out HXb.out HBb.out) | exact s37 hl7.out hx7.out hb7.out | exact s37 hlF.out hxF.out hbF.out)); clear hK K; refine wpAnyH_done (by kernel_rfl) ?_ _; refine NoPanic.normal ?_; rotate_left; exact AllReadyH.nil; exact AllReadyH.nil; exact AllReadyH.nil; exact AllReadyH.nil)
                      all_goals
                        go_wp2
                        obtain ⟨F', rfl⟩ : ∃ F', F = F' + 1 := ⟨F - 1, by omega⟩
                        have hrel' := HREL.out
                        rw [if_pos (by simp), opsR_step HC.out HHOP.out] at hrel'
                        have hkz : k' ≤ b.length := hkl'
                        go_roundw
                        case rel =>
                          refine ⟨ops ++ [o], F', k', f', gd', .slice A7 (ops.length + 1) cap7, HF.out.1, HGFF.out, hf', by simp; omega, by omega, by omega, (HKC.out.trans HK35.out (fun x hx => .inr ?_)).trans HF.out.2 (fun x hx => .inr ?_), hrel'⟩
                          · simp only [List.mem_cons, List.mem_nil_iff, or_false] at hx
                            rcases hx with rfl | rfl
                            · exact HGW.out
                            · exact HGXW.out
                          · have hmbw := HMB.out
                            rcases List.mem_cons.1 hx with hx | hx
                            · omega
                            · rcases List.mem_cons.1 hx with hx | hx
                              · omega
                              · have := (HOVL.out x hx).1; omega
                        case measure =>
                          rw [HF.out.1.rd.blk.cell_eq (i := 1) rfl, HMW.out]
                          simp [intOf]
                          omega
                | false =>
                  have hfew := HWC.out.rd.le
                  have HQ : Hid (∀ n, Calls Tryz.prog 74 #[.pointer (some ⟨g, 0, none⟩)] (wc.drewN n) fun e w' => e = .returned (.int .i64 ff) ∧ w' = wc.drewN n) := fun n => (oerr_any (wc.drewN n) g v b kk ff (HWC.out.nil ((Keep.refl [] wc).drewN n)).rd).mono (fun e w' h => ⟨h.1, h.2.symm⟩)
                  obtain ⟨OA, oc, rfl⟩ := HWC.out.oO.form
                  obtain ⟨l1, -, -, -, -, x1, -⟩ := HWC.out.cells
                  have g1 : wc.cell? ⟨gx, 0, none⟩ = some (.bool gd) := HGC.out.cell_eq rfl
                  cases gd with
                  | false =>
                    have hTO : TO = none := by rw [← HREL.out]; simp
                    have hLR := HLR.out
                    rw [hTO] at hLR
                    simp only at hLR
                    subst hLR
                    clear hTO
                    go_wp2
                    go_quiet (fail)
                    go_wp2
                    go_ret2
                    exact ⟨HKC.out.drewN nq, _, rfl⟩
                  | true =>
                    by_cases hf0 : ff = 0
                    · subst hf0
                      have hk0 : kk = b.length := by
                        have h1 := HCB.out
                        have h2 := HLK.out
                        simp at h1
                        omega
                      obtain ⟨F', rfl⟩ : ∃ F', F = F' + 1 := ⟨F - 1, by omega⟩
                      have hTO : TO = some ops := by rw [← HREL.out, if_pos (by simp)]; exact opsR_end (by omega)
                      have hLR := HLR.out
                      rw [hTO] at hLR
                      simp only at hLR
                      by_cases hops : ops = []
                      · rw [if_pos hops] at hLR
                        subst hLR
                        have hz : ops.length = 0 := by rw [hops]; rfl
                        generalize ops.length = m at *
                        subst hz
                        clear hTO hops
                        go_wp2
                        go_quiet ((go_at_call 74; exact Calls.quiet_of_same (HQ.out _)))
                        go_wp2
                        go_ret2
                        exact ⟨HKC.out.drewN nq, _, rfl⟩
                      · rw [if_neg hops] at hLR
                        subst hLR
                        have hz : (0 : Int) < (ops.length : Int) := by have := List.length_pos_iff.2 hops; omega
                        clear hTO
                        go_wp2
                        go_quiet ((go_at_call 74; exact Calls.quiet_of_same (HQ.out _)))
                        go_wp2
                        go_ret2
                        have hLst := Lst.nil (w := wc) (B := mb) (xb := mb + 1) (P := acc) (ops := ops) ⟨pv, _, mb, HWC.out.xB, HWC.out.pO, HWC.out.oO, HWC.out.mO⟩ ((Keep.refl [] wc).drewN nq)
                        have hd : decide (0 < ops.length) = true := decide_eq_true (by omega)
                        have hob : ops.length ≤ b.length := by omega
                        rw [hd]
                        have hLst2 : Lst (wc.drewN nq) w.heap.size (mb + 1) acc ops := by rw [HMB.out]; exact hLst
                        first
                          | exact ⟨HKC.out.drewN nq, mb + 1, rfl, hLst2, hob⟩
                          | exact ⟨HKC.out.drewN nq, mb + 1, rfl, hLst2, hPl, hob⟩
                    · have hTO : TO = none := by rw [← HREL.out]; simp [hf0]
                      have hLR := HLR.out
                      rw [hTO] at hLR
                      simp only at hLR
                      subst hLR
                      have hb1 : ((ff : Int) == 0) = false := by simp; omega
                      clear hTO hf0
                      go_wp2
                      go_quiet ((go_at_call 74; exact Calls.quiet_of_same (HQ.out _)))
                      go_wp2
                      go_ret2
                      exact ⟨HKC.out.drewN nq, _, rfl⟩
          · rw [if_pos (.inr hsz)] at hLR
            subst hLR
            have hb1 : ((sz : Int) != (LN : Int)) = true := by simp; omega
            have HLN := Lib.hid hLN
            clear hLN hsz
            go_wp2_with (first
              | (go_at_call 76; refine HU7.out.mono ?_; rintro e w3 ⟨rfl, hr3, hk3⟩; have hW3 := HW.out.go hk3 (by simp) hr3; obtain ⟨-, r3, -⟩ := hW3.cells; have HW3 := Lib.hid hW3; have HKK3 := Lib.hid hk3; have HE3 := Lib.hid (oerr_any w3 g v b k5 0 hr3); have HL3 := Lib.hid (oleft_any w3 g v b k5 0 hr3); rw [HLN.out] at HL3; clear hW3 hk3 hr3)
              | (go_at_call 74; refine HE3.out.mono ?_; rintro e w4 ⟨rfl, rfl⟩)
              | (go_at_call 77; refine HL3.out.mono ?_; rintro e w4 ⟨rfl, hk4⟩; have HKK4 := Lib.hid hk4; clear hk4))
            go_ret2
            exact ⟨(HK.out.trans HKK3.out (fun x hx => .inr (by simp at hx; rw [hx]; exact HGW.out))).nil HKK4.out, _, rfl⟩
        · rw [if_pos (.inl h5)] at hLR
          subst hLR
          have hb1 : ((f5 : Int) != 0) = true := by simp; omega
          clear h5
          go_wp2_with (first
            | (go_at_call 76; refine HU7.out.mono ?_; rintro e w3 ⟨rfl, hr3, hk3⟩; have hW3 := HW.out.go hk3 (by simp) hr3; obtain ⟨-, r3, -⟩ := hW3.cells; have HW3 := Lib.hid hW3; have HKK3 := Lib.hid hk3; have HE3 := Lib.hid (oerr_any w3 g v b k5 f5 hr3); clear hW3 hk3 hr3)
            | (go_at_call 74; refine HE3.out.mono ?_; rintro e w4 ⟨rfl, rfl⟩))
          go_ret2
          exact ⟨HK.out.trans HKK3.out (fun x hx => .inr (by simp at hx; rw [hx]; exact HGW.out)), _, rfl⟩
end Go.Proofs.YtmfoiceofhcicaaGreatDoor
