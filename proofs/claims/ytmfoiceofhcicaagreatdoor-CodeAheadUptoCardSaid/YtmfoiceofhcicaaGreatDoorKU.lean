/- Words for memory: texts, numbers and instructions of code in slices of the call's own; a map from numbers. No walk. -/
import Derived.Test.YtmfoiceofhcicaaGreatDoorKT
import Derived.Test.YtmfoiceofhcicaaGreatDoorKJ
namespace Go.Proofs.YtmfoiceofhcicaaGreatDoor
open Go.RowKit Go.Maps Go.WideMaps

/-! ### texts -/
theorem infoS : (Tryz.prog.info? 9).map (fun i => (i.zero, i.size, i.bytes)) = some (some (.string ⟨#[]⟩), 1, 16) := by kernel_rfl
def OwnS (w : World) (B : Nat) (v : Value) (l : List ByteArray) : Prop := w.ownsRow B 9 1 v l.length (l.map Value.string)
/-- The slice value v reads as these texts. -/
def RdS (w : World) (v : Value) (l : List ByteArray) : Prop := RdC (fun _ => True) w v l.length (l.map Value.string)
section
variable {w w' : World} {B : Nat} {v : Value} {l : List ByteArray} {bs : List Nat}
theorem OwnS.nil (w : World) (B : Nat) : OwnS w B (.slice none 0 0) [] := World.ownsRow_nil w B _ 1
theorem OwnS.lt (h : OwnS w B v l) : ∀ x ∈ v.ownBlock.toList, B ≤ x ∧ x < w.heap.size := fun x hx => World.ownsRow.lt h x (by simpa using hx)
theorem OwnS.keep (h : OwnS w B v l) (hk : Keep bs w w') (hb : ∀ x ∈ v.ownBlock.toList, x ∉ bs) : OwnS w' B v l := ownsRow_keep h hk hb
theorem OwnS.le {B' : Nat} (h : OwnS w B v l) (hB : B' ≤ B) : OwnS w B' v l := by
  refine ⟨h.1, ?_⟩
  rcases h.2 with h | ⟨g, cap, cur, h1, h2, h3⟩
  · exact .inl h
  · exact .inr ⟨g, cap, cur, h1, Nat.le_trans hB h2, h3⟩
theorem OwnS.form (h : OwnS w B v l) : ∃ A cap, v = .slice A l.length cap := by
  rcases h.2 with ⟨rfl, h0⟩ | ⟨g, cap, cur, rfl, _⟩
  · rw [h0]; exact ⟨_, _, rfl⟩
  · exact ⟨_, _, rfl⟩
theorem OwnS.at (h : OwnS w B v l) {i : Nat} {s : ByteArray} (hi : l[i]? = some s) : ∃ b cap, v = .slice (some ⟨b, 0, none⟩) l.length cap ∧ w.cell? ⟨b, i, none⟩ = some (.string s) := by
  have hl := (List.getElem?_eq_some_iff.1 hi).1
  have h' := h
  rcases h.2 with ⟨rfl, h0⟩ | ⟨g, cap, cur, rfl, _⟩
  · omega
  · refine ⟨g, cap, rfl, ?_⟩
    rw [World.ownsRow.cellAt h' i (by omega), List.getElem?_map, hi]
    rfl
theorem OwnS.reads (h : OwnS w B v l) : RdS w v l := RdC.of_own (by simp) h (fun _ _ => trivial)
theorem OwnS.one' (w : World) (v : Value) (h : OwnS w B v l) : v.oneCell' = true := by
  obtain ⟨A, cap, rfl⟩ := h.form
  rfl
theorem OwnN.one' (w : World) (v : Value) {ns : List Nat} (h : OwnN w B v ns) : v.oneCell' = true := by
  obtain ⟨A, cap, rfl⟩ := h.form
  rfl
/-- append of one text. -/
theorem wpList_append_t {ops : Array Oper} {rest : List Oper} {o : Oper} {a : Act} {Q : Exit → Act → World → Prop} (hgd : o.guard = none) (s x : Operand)
    (ho : o.op = .call { callee := .builtin .append, args := #[s, x], argTypes := #[34, 34] })
    (hs : a.eval s = v) (hown : OwnS w B v l) (t : ByteArray) (hx : a.eval x = .slice (some ⟨w.heap.size, 0, none⟩) 1 1)
    (hlen : l.length ≤ 1000000000) (hB : B ≤ w.heap.size)
    (h : ∀ A' cap' w', OwnS w' B (.slice A' (l.length + 1) cap') (l ++ [t]) → Keep v.ownBlock.toList w w' → wpList Tryz.prog ops Q rest (a.put o.dst (.slice A' (l.length + 1) cap')) w') : wpList Tryz.prog ops Q (o :: rest) a (w.alloc (.cells #[.string t] 9)) := by
  obtain ⟨i0, hi, hz0, hz1, hz2⟩ := info_parts infoS
  refine wpList_append_own _ hgd s x 34 ho B 9 i0 _ 1 16 Tryz.underlying34 hi hz0 hz1 hz2 rfl (by decide) v l.length (l.map Value.string) hs (World.ownsRow.alloc hown _) ⟨w.heap.size, 0, none⟩ 1 1 [.string t] hx (by simp) (new_cellsU w _ rfl [.string t] _) ?_ (by unfold maxLen; omega) (by omega) (by simp; omega) ?_
  · intro u hu
    simp only [List.mem_cons, List.mem_nil_iff, or_false] at hu
    rw [hu]
    rfl
  · intro v' w' h1 h2 _
    have hO : OwnS w' B v' (l ++ [t]) := by
      unfold OwnS
      rw [List.map_append, List.length_append, List.map_cons, List.map_nil]
      exact h1
    obtain ⟨A', cap', hv'⟩ := hO.form
    rw [List.length_append, List.length_singleton] at hv'
    subst hv'
    exact h A' cap' w' hO (((Keep.refl _ w).alloc _).grown h2 fun k hk => .inl (by simpa using hk))
end

/-! ### instructions -/
def OT.cells (o : OT) (u : Value × Value) : List Value := [.int .i64 (o.at_ : Int), .int .i64 (o.nx : Int), .int .i64 (o.k : Int), .string o.tx, .string o.nm, .string o.ty, .string o.st, .int .i64 (o.off : Int), u.1, u.2]
def opC : List OT → List (Value × Value) → List Value
  | o :: l, u :: us => o.cells u ++ opC l us
  | _, _ => []
theorem opC_append : ∀ (l : List OT) (us : List (Value × Value)) (m : List OT) (vs : List (Value × Value)), us.length = l.length → opC (l ++ m) (us ++ vs) = opC l us ++ opC m vs
  | [], [], _, _, _ => rfl
  | o :: l, u :: us, m, vs, h => by
    simp only [List.cons_append, opC, opC_append l us m vs (by simpa using h), List.append_assoc]
theorem opC_at : ∀ (l : List OT) (us : List (Value × Value)) (i : Nat) (o : OT) (u : Value × Value), l[i]? = some o → us[i]? = some u → ∀ j, j < 10 → (opC l us)[i * 10 + j]? = (o.cells u)[j]?
  | [], _, _, _, _, h, _, _, _ => by simp at h
  | _ :: _, [], _, _, _, _, h, _, _ => by simp at h
  | q :: l, v :: us, 0, o, u, h, h', j, hj => by
    simp only [List.getElem?_cons_zero, Option.some.injEq] at h h'
    subst h; subst h'
    simp only [opC, Nat.zero_mul, Nat.zero_add]
    rw [List.getElem?_append_left (by simpa [OT.cells] using hj)]
  | q :: l, v :: us, i + 1, o, u, h, h', j, hj => by
    have := opC_at l us i o u (by simpa using h) (by simpa using h') j hj
    simp only [opC]
    rw [List.getElem?_append_right (by simp [OT.cells]; omega), ← this]
    congr 1
    simp [OT.cells]; omega
/-- A slice of the call's own of instructions; what these lead to is the call's own too. -/
def OwnO (w : World) (B : Nat) (v : Value) (l : List OT) : Prop :=
  ∃ us, us.length = l.length ∧ w.ownsRow B 36 10 v l.length (opC l us) ∧ ∀ (i : Nat) (o : OT) (u : Value × Value), l[i]? = some o → us[i]? = some u → OwnS w B u.1 o.ks ∧ OwnN w B u.2 o.ts
theorem infoO : (Tryz.prog.info? 36).map (fun i => (i.zero, i.size, i.bytes)) = some (some (.agg #[.int .i64 0, .int .i64 0, .int .i64 0, .string ⟨#[]⟩, .string ⟨#[]⟩, .string ⟨#[]⟩, .string ⟨#[]⟩, .int .i64 0, .slice none 0 0, .slice none 0 0]), 10, 144) := by kernel_rfl
/-- In block x no row of texts, numbers, bytes or instructions stands. -/
def NoRow (w : World) (x : Nat) : Prop := ∀ cs t c, w.heap[x]? = some (.cells cs t c) → t ≠ 9 ∧ t ≠ 3 ∧ t ≠ 36 ∧ t ≠ 5
section
variable {w w' : World} {B : Nat} {v : Value} {l : List OT} {bs : List Nat}
theorem NoRow.blk {g : Nat} {t : TypeId} {cs : Array Value} (h : Blk w g t cs) (ht : t ≠ 9 ∧ t ≠ 3 ∧ t ≠ 36 ∧ t ≠ 5) : NoRow w g := fun cs' t' c he => by
  unfold Blk at h
  rw [h] at he
  injection he with he
  injection he with _ he _
  subst he
  exact ht
theorem NoRow.new {x : Nat} (h : w.heap.size ≤ x) : NoRow w x := fun cs t c he => by
  rw [Array.getElem?_eq_none h] at he
  cases he
theorem row_norow {e size n : Nat} {xs : List Value} (h : w.ownsRow B e size v n xs) (he : e = 9 ∨ e = 3 ∨ e = 36 ∨ e = 5) : ∀ x ∈ v.ownBlock.toList, ¬ NoRow w x := fun x hx hn => by
  rcases h.2 with ⟨rfl, _⟩ | ⟨g, cap, cur, rfl, _, hg, _⟩
  · simp [Value.ownBlock] at hx
  · simp [Value.ownBlock] at hx
    subst hx
    have := hn _ _ _ hg
    rcases he with rfl | rfl | rfl | rfl <;> simp at this
theorem OwnS.keepR {l : List ByteArray} (h : OwnS w B v l) (hk : Keep bs w w') (hb : ∀ x ∈ bs, NoRow w x) : OwnS w' B v l := h.keep hk fun x hx hc => row_norow h (.inl rfl) x hx (hb x hc)
theorem OwnN.keepR {l : List Nat} (h : OwnN w B v l) (hk : Keep bs w w') (hb : ∀ x ∈ bs, NoRow w x) : OwnN w' B v l := h.keep hk fun x hx hc => row_norow h (.inr (.inl rfl)) x hx (hb x hc)
theorem OwnU.keepR {l : List UInt8} (h : OwnU w B v l) (hk : Keep bs w w') (hb : ∀ x ∈ bs, NoRow w x) : OwnU w' B v l := h.keep hk fun x hx hc => row_norow h (.inr (.inr (.inr rfl))) x hx (hb x hc)
theorem OwnO.keepR (h : OwnO w B v l) (hk : Keep bs w w') (hb : ∀ x ∈ bs, NoRow w x) : OwnO w' B v l := by
  obtain ⟨us, h1, h2, h3⟩ := h
  exact ⟨us, h1, ownsRow_keep h2 hk (fun x hx hc => row_norow h2 (.inr (.inr (.inl rfl))) x hx (hb x hc)), fun i o u ho hu => ⟨(h3 i o u ho hu).1.keepR hk hb, (h3 i o u ho hu).2.keepR hk hb⟩⟩
theorem OwnO.nil (w : World) (B : Nat) : OwnO w B (.slice none 0 0) [] := ⟨[], rfl, World.ownsRow_nil w B _ 10, fun i o u h => by simp at h⟩
theorem OwnO.lt (h : OwnO w B v l) : ∀ x ∈ v.ownBlock.toList, B ≤ x ∧ x < w.heap.size := by
  obtain ⟨us, h1, h2, h3⟩ := h
  exact fun x hx => World.ownsRow.lt h2 x (by simpa using hx)
theorem OwnO.form (h : OwnO w B v l) : ∃ A cap, v = .slice A l.length cap := by
  obtain ⟨us, h1, h2, h3⟩ := h
  rcases h2.2 with ⟨rfl, h0⟩ | ⟨g, cap, cur, rfl, _⟩
  · rw [h0]; exact ⟨_, _, rfl⟩
  · exact ⟨_, _, rfl⟩
/-- An instruction at its place. -/
def OAt (w : World) (b o : Nat) (x : OT) (u : Value × Value) : Prop := ∀ j c, (x.cells u)[j]? = some c → w.cell? ⟨b, o + j, none⟩ = some c
theorem OwnO.at (h : OwnO w B v l) {i : Nat} {o : OT} (hi : l[i]? = some o) : ∃ b cap u, v = .slice (some ⟨b, 0, none⟩) l.length cap ∧ B ≤ b ∧ b < w.heap.size ∧ OAt w b (i * 10) o u ∧ OwnS w B u.1 o.ks ∧ OwnN w B u.2 o.ts := by
  obtain ⟨us, h1, h2, h3⟩ := h
  have hl := (List.getElem?_eq_some_iff.1 hi).1
  obtain ⟨u, hu⟩ : ∃ u, us[i]? = some u := ⟨_, List.getElem?_eq_getElem (by omega)⟩
  have h2' := h2
  rcases h2.2 with ⟨rfl, h0⟩ | ⟨g, cap, cur, rfl, hB, hg, _⟩
  · omega
  · refine ⟨g, cap, u, rfl, hB, (Array.getElem?_eq_some_iff.1 hg).1, fun j c hc => ?_, h3 i o u hi hu⟩
    have hj : j < 10 := by have := (List.getElem?_eq_some_iff.1 hc).1; simpa [OT.cells] using this
    rw [World.ownsRow.cellAt h2' (i * 10 + j) (by omega), opC_at l us i o u hi hu j hj]
    exact hc
theorem op_ones {p : OT} {u : Value × Value} (hk1 : OwnS w B u.1 p.ks) (hk2 : OwnN w B u.2 p.ts) : ∀ y ∈ p.cells u, y.oneCell' = true := by
  intro y hy
  simp only [OT.cells, List.mem_cons, List.mem_nil_iff, or_false] at hy
  rcases hy with rfl | rfl | rfl | rfl | rfl | rfl | rfl | rfl | rfl | rfl <;> first | rfl | exact OwnS.one' w _ hk1 | exact OwnN.one' w _ hk2
theorem op_more {p : OT} {u : Value × Value} {v' : Value} {us : List (Value × Value)} (h1 : us.length = l.length) (h2 : w.ownsRow B 36 10 v l.length (opC l us))
    (h3 : ∀ (i : Nat) (o : OT) (u : Value × Value), l[i]? = some o → us[i]? = some u → OwnS w B u.1 o.ks ∧ OwnN w B u.2 o.ts) (hk1 : OwnS w B u.1 p.ks) (hk2 : OwnN w B u.2 p.ts)
    (g1 : w'.ownsRow B 36 10 v' (l.length + 1) (opC l us ++ p.cells u)) (hk : Keep v.ownBlock.toList w w') : OwnO w' B v' (l ++ [p]) := by
  have hS : ∀ {u : Value} {m : List ByteArray}, OwnS w B u m → OwnS w' B u m := fun hu => hu.keep hk (own_own_ne hu h2 (by decide))
  have hN : ∀ {u : Value} {m : List Nat}, OwnN w B u m → OwnN w' B u m := fun hu => hu.keep hk (own_own_ne hu h2 (by decide))
  refine ⟨us ++ [u], by simp [h1], ?_, fun i q y hq hy => ?_⟩
  · rw [opC_append _ _ _ _ h1, List.length_append]
    simpa [opC] using g1
  · have key : OwnS w B y.1 q.ks ∧ OwnN w B y.2 q.ts := by
      rcases Nat.lt_or_ge i l.length with hh | hh
      · rw [List.getElem?_append_left hh] at hq
        rw [List.getElem?_append_left (by omega)] at hy
        exact h3 i q y hq hy
      · rw [List.getElem?_append_right hh] at hq
        rw [List.getElem?_append_right (by omega), h1] at hy
        cases hi : i - l.length with
        | zero => rw [hi] at hq hy; simp at hq hy; subst hq; subst hy; exact ⟨hk1, hk2⟩
        | succ k => rw [hi] at hq; simp at hq
    exact ⟨hS key.1, hN key.2⟩
end

/-! ### a map from numbers to numbers -/
theorem law_n : Keyed Tryz.prog 3 := int_keyed Tryz.underlying3
def keyN (n : Nat) : Lit := .int .i64 (n : Int)
theorem keyN_of {n : Nat} (hn : n ≤ 1000000000) : keyOf Tryz.prog 3 (.int .i64 (n : Int)) = some (keyN n) := keyOf_int_mk Tryz.underlying3 (WalkArith.wf_i64 (by omega))
def OwnMapN (w : World) (b n : Nat) (D : MapD) : Prop := w.ownsMap Tryz.prog 3 (plainElem Tryz.prog 3) b n D
def putN (D : MapD) (k v : Nat) : MapD := D.put (keyN k) (.lit (.int .i64 (v : Int)))
/-- Where each instruction stands, put one behind the other. -/
def atN : MapD → Nat → List OT → MapD
  | D, _, [] => D
  | D, i, o :: l => atN (putN D o.at_ i) (i + 1) l
theorem atN_snoc (o : OT) : ∀ (l : List OT) (D : MapD) (i : Nat), atN D i (l ++ [o]) = putN (atN D i l) o.at_ (i + l.length)
  | [], D, i => rfl
  | t :: l, D, i => by
    rw [List.cons_append]
    simp only [atN, List.length_cons]
    rw [atN_snoc o l, show i + 1 + l.length = i + (l.length + 1) by omega]
section
variable {w w' : World} {b n : Nat} {D : MapD} {bs : List Nat}
theorem OwnMapN.lt (h : OwnMapN w b n D) : b < w.heap.size := World.ownsMap.lt h
theorem OwnMapN.keep (h : OwnMapN w b n D) (hk : Keep bs w w') (hb : b ∉ bs) : OwnMapN w' b n D := by
  have hl := World.ownsMap.lt h
  obtain ⟨es, clock, he, F, hs, hD⟩ := h
  exact ⟨es, clock, (hk.block b hl hb).trans he, F, hs, hD⟩
theorem OwnMapN.alloc (h : OwnMapN w b n D) (o : Obj) : OwnMapN (w.alloc o) b n D := World.ownsMap.alloc h o
theorem ownMapN_ne {g : Nat} {t : TypeId} {cs : Array Value} (h : OwnMapN w b n D) (hg : Blk w g t cs) : b ≠ g := by
  rintro rfl
  obtain ⟨es, clock, he, _⟩ := h
  unfold Blk at hg
  rw [he] at hg
  cases hg
theorem NoRow.map (h : OwnMapN w b n D) : NoRow w b := fun cs t c hc => by
  obtain ⟨es, clock, he, _⟩ := h
  rw [he] at hc
  cases hc
theorem row_mapN {B e size m : Nat} {v : Value} {xs : List Value} (h : w.ownsRow B e size v m xs) (hm : OwnMapN w b n D) : b ∉ v.ownBlock.toList := fun hx => by
  obtain ⟨es, clock, he, _⟩ := hm
  rcases h.2 with ⟨rfl, _⟩ | ⟨g, cap, cur, rfl, _, hb, _⟩
  · simp [Value.ownBlock] at hx
  · simp [Value.ownBlock] at hx
    subst hx
    rw [he] at hb
    cases hb
/-- 'm[k] = v' at the operation. -/
theorem wpList_putN {ops : Array Oper} {rest : List Oper} {o : Oper} {a : Act} {Q : Exit → Act → World → Prop} (hg : o.guard = none) (m x v : Operand) (hop : o.op = Op.mapUpdate 75 m x v)
    (hown : OwnMapN w b n D) (hm : a.eval m = .map (some b)) (k : Nat) (hx : a.eval x = .int .i64 (k : Int)) (z : Nat) (hv : a.eval v = .int .i64 (z : Int)) (hs : k ≤ 1000000000) (hn : n ≤ 1000000000) (hz : z ≤ 1000000000)
    (hK : ∀ w', OwnMapN w' b (n + 1) (putN D k z) → Keep [b] w w' → wpList Tryz.prog ops Q rest (a.put o.dst undef) w') : wpList Tryz.prog ops Q (o :: rest) a w :=
  wpList_mapUpdate_own w hg m x v 75 hop 3 3 law_n Tryz.underlying75 _ b n D hm hown (by unfold maxLen; omega) _ _ _ hx hv (keyN_of hs) _ [] (plainElem_int Tryz.underlying3 (WalkArith.wf_i64 (by omega)))
    fun w' h1 h2 => hK w' h1 ((Keep.refl [b] w).grown h2 fun k hk => .inl (by cases hk; simp))
end

/-! ### the reader of bytes -/
theorem Rdr.keepO {w w' : World} {B g k f : Nat} {v : Value} {l : List UInt8} {bs : List Nat} (h : Rdr w g v l k f) (ho : OwnU w' B v l) (hk : Keep bs w w') (hg : g ∉ bs) : Rdr w' g v l k f :=
  have hb := h.blk.keep hk hg
  ⟨hb, RdC.of_own (by simp) ho (fun x hx he => own_blk_ne ho hb (by decide) (by subst he; simpa using hx)), h.le, h.few⟩
end Go.Proofs.YtmfoiceofhcicaaGreatDoor
