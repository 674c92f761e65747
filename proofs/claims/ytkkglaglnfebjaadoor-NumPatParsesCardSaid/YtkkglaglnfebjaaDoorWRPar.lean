/- Walks: the reference's Parse. -/
import Derived.Test.YtkkglaglnfebjaaDoorWRDig
namespace Go.Proofs.YtkkglaglnfebjaaDoor
open Go.RowKit Go.IntWalk

theorem dLoop_ok (s : ByteArray) : ∀ f q n fr cm mi, okAt s q → okAt s (dLoop s f q n fr cm mi).1
  | 0, q, n, fr, cm, mi, h => h
  | f + 1, q, n, fr, cm, mi, h => by
    simp only [dLoop]
    split
    · rename_i hc; exact dLoop_ok s f _ _ _ _ _ (okAt_byte h hc.1 (by omega))
    · split
      · rename_i hc; exact dLoop_ok s f _ _ _ _ _ (okAt_byte h hc (by omega))
      · split
        · rename_i hc; exact dLoop_ok s f _ _ _ _ _ (okAt_byte h hc.2 (by omega))
        · exact h
theorem runB_ok (s : ByteArray) (b : Nat) (hb : b < 128) : ∀ f q, okAt s q → okAt s (q + runB s b f q)
  | 0, q, h => h
  | f + 1, q, h => by
    simp only [runB]
    split
    · rename_i hc
      have := runB_ok s b hb f (q + 1) (okAt_byte h hc hb)
      rwa [show q + (runB s b f (q + 1) + 1) = q + 1 + runB s b f (q + 1) by omega]
    · exact h
theorem digitsS_ok {s : ByteArray} {p : Nat} {d : DRes} (hp : okAt s p) (h : digitsS s p = .ok d) : okAt s d.q := by
  have hl := dLoop_ok s (s.size + 1 - p) p 0 true [] 0 hp
  unfold digitsS at h
  generalize dLoop s (s.size + 1 - p) p 0 true [] 0 = r at *
  obtain ⟨q, n, fr, cm, mi⟩ := r
  simp only at h hl
  split at h
  · cases h
  · split at h
    · rename_i hb
      split at h
      · cases h
      · split at h
        · cases h
        · simp only [Except.ok.injEq] at h
          subst h
          exact runB_ok s 35 (by omega) _ _ (runB_ok s 48 (by omega) _ _ (okAt_byte hl hb (by omega)))
    · split at h
      · cases h
      · simp only [Except.ok.injEq] at h
        subst h
        exact hl
theorem digitsS_err {s : ByteArray} {p : Nat} {y : Int × Nat} (h : digitsS s p = .error y) : (y.1 == 0) = false ∧ (y.1 != 0) = true := by
  unfold digitsS at h
  generalize dLoop s (s.size + 1 - p) p 0 true [] 0 = r at *
  obtain ⟨q, n, fr, cm, mi⟩ := r
  simp only at h
  repeat' split at h
  all_goals first
    | (simp only [Except.error.injEq] at h; subst h; exact ⟨rfl, rfl⟩)
    | cases h
/-- The pattern of what was read. -/
def patOf (r : PRes) : PatD := ⟨r.pre, r.suf, r.neg, r.npre, r.nsuf, r.d.mi, r.d.mf, r.d.xf, r.d.g1, r.d.g2⟩
/-- What the reference's Parse hands back. -/
def RPPost (w : World) : Except (Int × Int) PRes → Ending → World → Prop
  | .ok r, x, w' => ∃ v1 v2 v3 v4, x = .returned (.tuple #[patV v1 v2 v3 v4 (patOf r), .agg #[.int .i64 0, .int .i64 0]]) ∧ RdP w' v1 v2 v3 v4 (patOf r) ∧ Keep [] w w'
  | .error y, x, w' => x = .returned (.tuple #[zeroPat, .agg #[.int .i64 y.1, .int .i64 y.2]]) ∧ Keep [] w w'
def halfA (s : ByteArray) (l1 : List Aff) (d : DRes) : Except (Int × Nat) HRes :=
  match aroundF s (s.size + 1 - d.q) d.q [] with
  | .error y => .error (260, y)
  | .ok (l2, q2) => .ok ⟨l1, d, l2, q2⟩
def halfD (s : ByteArray) (l1 : List Aff) (q1 : Nat) : Except (Int × Nat) HRes :=
  match digitsS s q1 with
  | .error e => .error e
  | .ok d => halfA s l1 d
theorem halfS_err {s : ByteArray} {p y : Nat} (h : aroundF s (s.size + 1 - p) p [] = .error y) : halfS s p = .error (260, y) := by unfold halfS; rw [h]
theorem halfS_ok {s : ByteArray} {p q : Nat} {l : List Aff} (h : aroundF s (s.size + 1 - p) p [] = .ok (l, q)) : halfS s p = halfD s l q := by
  unfold halfS halfD; rw [h]; simp only
  cases digitsS s q with
  | error e => rfl
  | ok d => rfl
theorem halfD_err {s : ByteArray} {q : Nat} {l : List Aff} {y : Int × Nat} (h : digitsS s q = .error y) : halfD s l q = .error y := by unfold halfD; rw [h]
theorem halfD_ok {s : ByteArray} {q : Nat} {l : List Aff} {d : DRes} (h : digitsS s q = .ok d) : halfD s l q = halfA s l d := by unfold halfD; rw [h]
theorem halfA_err {s : ByteArray} {l : List Aff} {d : DRes} {y : Nat} (h : aroundF s (s.size + 1 - d.q) d.q [] = .error y) : halfA s l d = .error (260, y) := by unfold halfA; rw [h]
theorem halfA_ok {s : ByteArray} {l l2 : List Aff} {d : DRes} {q : Nat} (h : aroundF s (s.size + 1 - d.q) d.q [] = .ok (l2, q)) : halfA s l d = .ok ⟨l, d, l2, q⟩ := by unfold halfA; rw [h]
theorem Sc.placeZ {w : World} {g : Nat} {s : ByteArray} {q e ea : Int} (h : Sc w g s q e ea) (z : Int) (p : Nat) (hz : z = p) : Sc (w.setCell ⟨g, 1, none⟩ (.int .i64 z)) g s p e ea := by subst hz; exact h.place _
def rparW (w : World) (s : ByteArray) : World := ((((w.alloc (.cells #[.slice none 0 0, .slice none 0 0, .bool false, .slice none 0 0, .slice none 0 0, .int .i64 0, .int .i64 0, .int .i64 0, .int .i64 0, .int .i64 0] 25)).alloc (.cells #[.int .i64 0, .int .i64 0] 28)).alloc (.cells #[.string s, .int .i64 0, .int .i64 0, .int .i64 0] 69)).alloc (.cells #[.slice none 0 0, .slice none 0 0, .bool false, .slice none 0 0, .slice none 0 0, .int .i64 0, .int .i64 0, .int .i64 0, .int .i64 0, .int .i64 0] 25)).alloc (.cells #[.slice none 0 0, .slice none 0 0, .bool false, .slice none 0 0, .slice none 0 0, .int .i64 0, .int .i64 0, .int .i64 0, .int .i64 0, .int .i64 0] 25)
theorem OwnA.none_keep {w : World} {B : Nat} : OwnA w B (.slice none 0 0) [] := OwnA.nil _ _
/-- What holds in Parse: the results' boxes, the pattern's box and its pieces. -/
structure PT (w W : World) (n : Nat) (v1 v2 vn v3 v4 : Value) (l1 l2 l3 l4 : List Aff) (mi mf xf g1 g2 : Int) : Prop where
  r0 : Zp W n
  r1 : Sp W (n + 1) 0 0
  kp : Keep [] w W
  pat : Pat W (n + 1 + 1 + 1) v1 v2 vn v3 v4 mi mf xf g1 g2
  o1 : OwnA W (n + 5) v1 l1
  o2 : OwnA W (n + 5) v2 l2
  o3 : OwnA W (n + 5) v3 l3
  o4 : OwnA W (n + 5) v4 l4
/-- The results' boxes alone. -/
structure PE (w W : World) (n : Nat) : Prop where
  r0 : Zp W n
  r1 : Sp W (n + 1) 0 0
  kp : Keep [] w W
theorem PE.step {w W W' : World} {n : Nat} {bs : List Nat} (h : PE w W n) (hn : w.heap.size = n) (hk : Keep bs W W') (hb : ∀ x ∈ bs, n + 1 < x) : PE w W' n :=
  ⟨Blk.keep h.r0 hk (fun hc => by have := hb _ hc; omega), Blk.keep h.r1 hk (fun hc => by have := hb _ hc; omega), h.kp.trans hk (fun x hx => by have := hb x hx; right; omega)⟩
theorem PE.cells {w W : World} {n : Nat} (h : PE w W n) :
    (W.cell? ⟨n, 0, none⟩ = some (.slice none 0 0) ∧ W.cell? ⟨n, 1, none⟩ = some (.slice none 0 0) ∧ W.cell? ⟨n, 2, none⟩ = some (.bool false) ∧ W.cell? ⟨n, 3, none⟩ = some (.slice none 0 0) ∧ W.cell? ⟨n, 4, none⟩ = some (.slice none 0 0) ∧
      W.cell? ⟨n, 5, none⟩ = some (.int .i64 0) ∧ W.cell? ⟨n, 6, none⟩ = some (.int .i64 0) ∧ W.cell? ⟨n, 7, none⟩ = some (.int .i64 0) ∧ W.cell? ⟨n, 8, none⟩ = some (.int .i64 0) ∧ W.cell? ⟨n, 9, none⟩ = some (.int .i64 0) ∧ ∀ i, W.frozen? ⟨n, i, none⟩ = false) ∧
    W.cell? ⟨n + 1, 0, none⟩ = some (.int .i64 0) ∧ W.cell? ⟨n + 1, 1, none⟩ = some (.int .i64 0) ∧ (∀ i, W.frozen? ⟨n + 1, i, none⟩ = false) :=
  ⟨Pat.all h.r0, (Sp.all h.r1).1, (Sp.all h.r1).2.1, (Sp.all h.r1).2.2⟩
section
variable {w W W' : World} {n : Nat} {v1 v2 vn v3 v4 v : Value} {l1 l2 l3 l4 l : List Aff} {mi mf xf g1 g2 : Int} {bs : List Nat}
theorem OwnA.low (h : OwnA W (n + 5) v l) (hk : Keep bs W W') (hb : ∀ x ∈ bs, x < n + 5) : OwnA W' (n + 5) v l := h.keep hk (fun x hx hc => by have := h.lt x hx; have := hb x hc; omega)
theorem PT.dig {mi' mf' xf' g1' g2' : Int} (h : PT w W n v1 v2 vn v3 v4 l1 l2 l3 l4 mi mf xf g1 g2) (hn : w.heap.size = n) (hk : Keep [n + 1 + 1, n + 1 + 1 + 1] W W') (hp : Pat W' (n + 1 + 1 + 1) v1 v2 vn v3 v4 mi' mf' xf' g1' g2') : PT w W' n v1 v2 vn v3 v4 l1 l2 l3 l4 mi' mf' xf' g1' g2' := by
  have hb : ∀ x ∈ [n + 1 + 1, n + 1 + 1 + 1], x < n + 5 := fun x hx => by simp at hx; omega
  exact ⟨Blk.keep h.r0 hk (by simp <;> omega), Blk.keep h.r1 hk (by simp <;> omega), h.kp.trans hk (fun x hx => by simp at hx; right; omega), hp, h.o1.low hk hb, h.o2.low hk hb, h.o3.low hk hb, h.o4.low hk hb⟩
theorem PT.step (h : PT w W n v1 v2 vn v3 v4 l1 l2 l3 l4 mi mf xf g1 g2) (hn : w.heap.size = n) (hk : Keep bs W W') (hb : ∀ x ∈ bs, x = n + 1 + 1 ∨ x = n + 1 + 1 + 1 + 1) : PT w W' n v1 v2 vn v3 v4 l1 l2 l3 l4 mi mf xf g1 g2 := by
  have hb2 : ∀ x ∈ bs, x < n + 5 := fun x hx => by have := hb x hx; omega
  have hne : ∀ k, k ≠ n + 1 + 1 → k ≠ n + 1 + 1 + 1 + 1 → k ∉ bs := fun k h1 h2 hc => by have := hb k hc; omega
  exact ⟨Blk.keep h.r0 hk (hne _ (by omega) (by omega)), Blk.keep h.r1 hk (hne _ (by omega) (by omega)), h.kp.trans hk (fun x hx => by have := hb x hx; right; omega), Blk.keep h.pat hk (hne _ (by omega) (by omega)), h.o1.low hk hb2, h.o2.low hk hb2, h.o3.low hk hb2, h.o4.low hk hb2⟩
theorem PT.put (h : PT w W n v1 v2 vn v3 v4 l1 l2 l3 l4 mi mf xf g1 g2) (hn : w.heap.size = n) (i : Nat) (u : Value) : Zp (W.setCell ⟨n + 1 + 1 + 1, i, none⟩ u) n ∧ Sp (W.setCell ⟨n + 1 + 1 + 1, i, none⟩ u) (n + 1) 0 0 ∧ Keep [] w (W.setCell ⟨n + 1 + 1 + 1, i, none⟩ u) ∧
    ∀ x k, OwnA W (n + 5) x k → OwnA (W.setCell ⟨n + 1 + 1 + 1, i, none⟩ u) (n + 5) x k :=
  ⟨Blk.far h.r0 (by simp <;> omega) _, Blk.far h.r1 (by simp <;> omega) _, h.kp.setCell (.inr (by simp; omega)) _, fun x k hx => hx.far (by simp) _⟩
theorem PT.pre (h : PT w W n v1 v2 vn v3 v4 l1 l2 l3 l4 mi mf xf g1 g2) (hn : w.heap.size = n) (ho : OwnA W (n + 5) v l) : PT w (W.setCell ⟨n + 1 + 1 + 1, 0, none⟩ v) n v v2 vn v3 v4 l l2 l3 l4 mi mf xf g1 g2 := by
  obtain ⟨a, b, c, d⟩ := h.put hn 0 v
  exact ⟨a, b, c, Blk.set_ h.pat 0 _, d _ _ ho, d _ _ h.o2, d _ _ h.o3, d _ _ h.o4⟩
theorem PT.suf (h : PT w W n v1 v2 vn v3 v4 l1 l2 l3 l4 mi mf xf g1 g2) (hn : w.heap.size = n) (ho : OwnA W (n + 5) v l) : PT w (W.setCell ⟨n + 1 + 1 + 1, 1, none⟩ v) n v1 v vn v3 v4 l1 l l3 l4 mi mf xf g1 g2 := by
  obtain ⟨a, b, c, d⟩ := h.put hn 1 v
  exact ⟨a, b, c, Blk.set_ h.pat 1 _, d _ _ h.o1, d _ _ ho, d _ _ h.o3, d _ _ h.o4⟩
theorem PT.neg (h : PT w W n v1 v2 vn v3 v4 l1 l2 l3 l4 mi mf xf g1 g2) (hn : w.heap.size = n) : PT w (W.setCell ⟨n + 1 + 1 + 1, 2, none⟩ (.bool true)) n v1 v2 (.bool true) v3 v4 l1 l2 l3 l4 mi mf xf g1 g2 := by
  obtain ⟨a, b, c, d⟩ := h.put hn 2 (.bool true)
  exact ⟨a, b, c, Blk.set_ h.pat 2 _, d _ _ h.o1, d _ _ h.o2, d _ _ h.o3, d _ _ h.o4⟩
theorem PT.npre (h : PT w W n v1 v2 vn v3 v4 l1 l2 l3 l4 mi mf xf g1 g2) (hn : w.heap.size = n) (ho : OwnA W (n + 5) v l) : PT w (W.setCell ⟨n + 1 + 1 + 1, 3, none⟩ v) n v1 v2 vn v v4 l1 l2 l l4 mi mf xf g1 g2 := by
  obtain ⟨a, b, c, d⟩ := h.put hn 3 v
  exact ⟨a, b, c, Blk.set_ h.pat 3 _, d _ _ h.o1, d _ _ h.o2, d _ _ ho, d _ _ h.o4⟩
theorem PT.nsuf (h : PT w W n v1 v2 vn v3 v4 l1 l2 l3 l4 mi mf xf g1 g2) (hn : w.heap.size = n) (ho : OwnA W (n + 5) v l) : PT w (W.setCell ⟨n + 1 + 1 + 1, 4, none⟩ v) n v1 v2 vn v3 v l1 l2 l3 l mi mf xf g1 g2 := by
  obtain ⟨a, b, c, d⟩ := h.put hn 4 v
  exact ⟨a, b, c, Blk.set_ h.pat 4 _, d _ _ h.o1, d _ _ h.o2, d _ _ h.o3, d _ _ ho⟩
theorem PT.cells (h : PT w W n v1 v2 vn v3 v4 l1 l2 l3 l4 mi mf xf g1 g2) :
    (W.cell? ⟨n, 0, none⟩ = some (.slice none 0 0) ∧ W.cell? ⟨n, 1, none⟩ = some (.slice none 0 0) ∧ W.cell? ⟨n, 2, none⟩ = some (.bool false) ∧ W.cell? ⟨n, 3, none⟩ = some (.slice none 0 0) ∧ W.cell? ⟨n, 4, none⟩ = some (.slice none 0 0) ∧
      W.cell? ⟨n, 5, none⟩ = some (.int .i64 0) ∧ W.cell? ⟨n, 6, none⟩ = some (.int .i64 0) ∧ W.cell? ⟨n, 7, none⟩ = some (.int .i64 0) ∧ W.cell? ⟨n, 8, none⟩ = some (.int .i64 0) ∧ W.cell? ⟨n, 9, none⟩ = some (.int .i64 0) ∧ ∀ i, W.frozen? ⟨n, i, none⟩ = false) ∧
    W.cell? ⟨n + 1, 0, none⟩ = some (.int .i64 0) ∧ W.cell? ⟨n + 1, 1, none⟩ = some (.int .i64 0) ∧ (∀ i, W.frozen? ⟨n + 1, i, none⟩ = false) ∧
    (W.cell? ⟨n + 1 + 1 + 1, 0, none⟩ = some v1 ∧ W.cell? ⟨n + 1 + 1 + 1, 1, none⟩ = some v2 ∧ W.cell? ⟨n + 1 + 1 + 1, 2, none⟩ = some vn ∧ W.cell? ⟨n + 1 + 1 + 1, 3, none⟩ = some v3 ∧ W.cell? ⟨n + 1 + 1 + 1, 4, none⟩ = some v4 ∧
      W.cell? ⟨n + 1 + 1 + 1, 5, none⟩ = some (.int .i64 mi) ∧ W.cell? ⟨n + 1 + 1 + 1, 6, none⟩ = some (.int .i64 mf) ∧ W.cell? ⟨n + 1 + 1 + 1, 7, none⟩ = some (.int .i64 xf) ∧ W.cell? ⟨n + 1 + 1 + 1, 8, none⟩ = some (.int .i64 g1) ∧ W.cell? ⟨n + 1 + 1 + 1, 9, none⟩ = some (.int .i64 g2) ∧ ∀ i, W.frozen? ⟨n + 1 + 1 + 1, i, none⟩ = false) :=
  ⟨Pat.all h.r0, (Sp.all h.r1).1, (Sp.all h.r1).2.1, (Sp.all h.r1).2.2, Pat.all h.pat⟩
end
theorem RdA.dr1 {w : World} {v : Value} {l : List Aff} (h : RdA w v l) : RdA w.drew v l := h.keep_nil ((Keep.refl [] w).drew)
theorem RdA.dr0 {w : World} {v : Value} {l : List Aff} (h : RdA w v l) : RdA w v l := h
theorem PT.drew {w W : World} {n : Nat} {v1 v2 vn v3 v4 : Value} {l1 l2 l3 l4 : List Aff} {mi mf xf g1 g2 : Int} (h : PT w W n v1 v2 vn v3 v4 l1 l2 l3 l4 mi mf xf g1 g2) : PT w W.drew n v1 v2 vn v3 v4 l1 l2 l3 l4 mi mf xf g1 g2 := ⟨h.r0, h.r1, h.kp.drew, h.pat, h.o1.heap rfl, h.o2.heap rfl, h.o3.heap rfl, h.o4.heap rfl⟩
theorem PT.pe {w W : World} {n : Nat} {v1 v2 vn v3 v4 : Value} {l1 l2 l3 l4 : List Aff} {mi mf xf g1 g2 : Int} (h : PT w W n v1 v2 vn v3 v4 l1 l2 l3 l4 mi mf xf g1 g2) : PE w W n := ⟨h.r0, h.r1, h.kp⟩
theorem rparW_is (w : World) (s : ByteArray) (n : Nat) (hn : w.heap.size = n) : PT w (rparW w s) n (.slice none 0 0) (.slice none 0 0) (.bool false) (.slice none 0 0) (.slice none 0 0) [] [] [] [] 0 0 0 0 0 ∧ Sc (rparW w s) (n + 1 + 1) s 0 0 0 ∧ Zp (rparW w s) (n + 1 + 1 + 1 + 1) ∧ (rparW w s).heap.size = n + 5 := by
  subst hn
  refine ⟨⟨Blk.alloc (Blk.alloc (Blk.alloc (Blk.alloc (Blk.new _ _ _) _) _) _) _, Blk.alloc (Blk.alloc (Blk.alloc (Blk.new' _ _ _ _ (by simp)) _) _) _, (((((Keep.refl _ _).alloc _).alloc _).alloc _).alloc _).alloc _, Blk.alloc (Blk.new' _ _ _ _ (by simp)) _, OwnA.nil _ _, OwnA.nil _ _, OwnA.nil _ _, OwnA.nil _ _⟩, Blk.alloc (Blk.alloc (Blk.new' _ _ _ _ (by simp)) _) _, Blk.new' _ _ _ _ (by simp), by simp [rparW]⟩
theorem keep_res {w W : World} {n : Nat} (h : Keep [] w W) (hn : w.heap.size = n) (v0 v1 v2 v3 v4 v5 v6 v7 v8 v9 x y : Value) :
    Keep [] w ((((((((((((W.setCell ⟨n, 0, none⟩ v0).setCell ⟨n, 1, none⟩ v1).setCell ⟨n, 2, none⟩ v2).setCell ⟨n, 3, none⟩ v3).setCell ⟨n, 4, none⟩ v4).setCell ⟨n, 5, none⟩ v5).setCell ⟨n, 6, none⟩ v6).setCell ⟨n, 7, none⟩ v7).setCell ⟨n, 8, none⟩ v8).setCell ⟨n, 9, none⟩ v9).setCell ⟨n + 1, 0, none⟩ x).setCell ⟨n + 1, 1, none⟩ y) := by
  repeat (refine Keep.setCell ?_ (.inr (by simp; omega)) _)
  exact h

set_option maxRecDepth 100000 in
set_option maxHeartbeats 16000000 in
theorem rparse_any (w : World) (s : ByteArray) (hs : s.size ≤ 9223372036854775000) :
    Calls Tryd.prog 11 #[.string s] w (RPPost w (parseS s)) := by
  by_cases h1 : 4096 < s.size
  · have HS : Hid (parseS s = .error (3, 4096)) := by unfold Hid parseS; rw [if_pos h1]
    have h1i : (4096 : Int) < s.size := by omega
    go_enter Tryd.func11, Tryd.ntmps11
    go_wp2
    rw [HS.out]
    refine bodyPost_ret (v := .tuple #[zeroPat, .agg #[.int .i64 3, .int .i64 4096]]) (by simp [results, Tryd.results11, go_sem, zeroPat]) rfl ⟨rfl, ((Keep.refl [] w).alloc _).alloc _⟩
  have hBr : ∀ W, Hid (Calls Tryd.prog 36 #[.string s] W fun e w' => e = .returned (.int .i64 (brk s)) ∧ W = w') := fun W => broken_any s W (by omega)
  have h1i : (s.size : Int) ≤ 4096 := by omega
  by_cases h2 : brk s < 0
  rotate_left
  · have HS : Hid (parseS s = .error (6, brk s)) := by unfold Hid parseS; rw [if_neg h1, if_pos (by simpa using h2)]
    have h2i : decide (0 ≤ brk s) = true := by simp; omega
    have h3i : decide ((4096 : Int) < s.size) = false := by simp; omega
    clear h2
    go_enter Tryd.func11, Tryd.ntmps11
    go_wp2_with (go_at_call 36; refine (hBr _).out.mono ?_; rintro e w' ⟨rfl, rfl⟩)
    rw [HS.out]
    refine bodyPost_ret (v := .tuple #[zeroPat, .agg #[.int .i64 6, .int .i64 (brk s)]]) (by simp [results, Tryd.results11, go_sem, zeroPat]) rfl ⟨rfl, ((Keep.refl [] w).alloc _).alloc _⟩
  have HS : Hid (parseS s = parseS2 s (halfS s 0)) := by unfold Hid parseS; rw [if_neg h1, if_neg (by simpa using h2)]
  have HOK : Hid (okAt s 0) := h2
  have hs4 : s.size ≤ 4096 := by omega
  have hs8 : s.size ≤ 100000000 := by omega
  obtain ⟨n, hn⟩ : ∃ n, w.heap.size = n := ⟨_, rfl⟩
  obtain ⟨hT0, hS0, hQ0, hz0⟩ := rparW_is w s n hn
  have HN := Lib.hid hn
  have HT0 := Lib.hid hT0
  have HQ0 := Lib.hid hQ0
  have HZ0 : Hid (n + 5 ≤ (rparW w s).heap.size) := Nat.le_of_eq hz0.symm
  have HA := Lib.hid (raffix_any (rparW w s) (n + 1 + 1) s 0 (s.size + 1) hS0 hs8 (Nat.zero_le _) HOK.out (by omega))
  have hIs : ∀ (W : World) (q : Nat), Sc W (n + 1 + 1) s q 0 0 → q ≤ s.size → Hid (∀ word, Calls Tryd.prog 39 #[.pointer (some ⟨n + 1 + 1, 0, none⟩), .string word] W fun x w' => x = .returned (.bool (preB s q word)) ∧ SameW w' W) := fun W q hW hq word => (is_any W (n + 1 + 1) s q 0 0 word hW hq).mono fun _ _ hx => ⟨hx.1, (SameW.refl W).drew hx.2⟩
  have h2i : decide (0 ≤ brk s) = false := by simp; omega
  have h3i : decide ((4096 : Int) < s.size) = false := by simp; omega
  clear h1 h2 hn hT0 hS0 hQ0 hz0
  go_enter Tryd.func11, Tryd.ntmps11
  go_wp2_with (go_at_call 36; refine (hBr _).out.mono ?_; rintro e w' ⟨rfl, rfl⟩)
  rw [HN.out]
  have HQz := HQ0
  clear HQ0
  refine HA.out.mono ?_
  clear HA
  rcases hx : aroundF s (s.size + 1) (0) [] with y | ⟨l1, q1⟩
  · skip
    have HE : Hid (parseS s = .error (260, y)) := by have := HS.out; rw [halfS_err (by rw [show s.size + 1 - 0 = s.size + 1 by omega]; exact hx)] at this; exact this
    rintro x w1 ⟨rfl, ⟨q, hS⟩, hk⟩
    have HSe := Lib.hid hS
    have HTe := Lib.hid (HT0.out.step HN.out hk (by simp))
    have HTf := Lib.hid (HTe.out.pre HN.out (OwnA.nil _ _))
    clear hS hk hx
    obtain ⟨c0, c1, c2, c3, cf, cz⟩ := HSe.out.all
    obtain ⟨⟨r0, r1, r2, r3, r4, r5, r6, r7, r8, r9, rf⟩, t0, t1, tf, p0, p1, p2, p3, p4, p5, p6, p7, p8, p9, pf⟩ := HTe.out.cells
    go_wp2
    go_region
    all_goals
      go_wp2
      rw [HE.out]
      refine bodyPost_ret (v := .tuple #[zeroPat, .agg #[.int .i64 260, .int .i64 y]]) ?_ rfl ⟨rfl, (keep_res HTf.out.kp HN.out _ _ _ _ _ _ _ _ _ _ _ _).drew⟩
      simp [results, Tryd.results11, go_sem, zeroPat, r0, r1, r2, r3, r4, r5, r6, r7, r8, r9, t0, t1]
  rintro x w1 ⟨V, rfl, hO, hS, hk, hq, hql1, hok1⟩
  obtain ⟨A1, k1, rfl, -⟩ := hO.form
  have HX1 : Hid (parseS s = parseS2 s (halfD s l1 q1)) := by have := HS.out; rw [halfS_ok (by rw [show s.size + 1 - 0 = s.size + 1 by omega]; exact hx)] at this; exact this
  have HTa := Lib.hid (HT0.out.step HN.out hk (by simp))
  have hOm : OwnA w1 (n + 5) (.slice A1 l1.length k1) l1 := hO.mono HZ0.out
  have HSa := Lib.hid hS
  have HT1 := Lib.hid (HTa.out.pre HN.out hOm)
  have HS1 : Hid (Sc (w1.setCell ⟨n + 1 + 1 + 1, 0, none⟩ (.slice A1 l1.length k1)) (n + 1 + 1) s q1 0 0) := Blk.far hS (by simp) _
  have HQ1 : Hid (Zp (w1.setCell ⟨n + 1 + 1 + 1, 0, none⟩ (.slice A1 l1.length k1)) (n + 1 + 1 + 1 + 1)) := Blk.far (Blk.keep HQz.out hk (by simp <;> omega)) (by simp <;> omega) _
  have HOK1 := Lib.hid hok1
  have hz1 : n + 5 ≤ (w1.setCell ⟨n + 1 + 1 + 1, 0, none⟩ (.slice A1 l1.length k1)).heap.size := by have h1 := hk.size; have h2 := HZ0.out; simp only [World.setCell, Array.size_modify]; omega
  clear hS hk hx hO hOm hq HQz hok1
  obtain ⟨c0, c1, c2, c3, cf, cz⟩ := HSa.out.all
  obtain ⟨⟨r0, r1, r2, r3, r4, r5, r6, r7, r8, r9, rf⟩, t0, t1, tf, p0, p1, p2, p3, p4, p5, p6, p7, p8, p9, pf⟩ := HTa.out.cells
  have HQz := HQ1
  clear HQ1
  have hqe1 : (q1 : Int) ≤ s.size := by omega
  have HA := Lib.hid (rdigs_any (w1.setCell ⟨n + 1 + 1 + 1, 0, none⟩ (.slice A1 l1.length k1)) (n + 1 + 1) (n + 1 + 1 + 1) s q1 (.slice A1 l1.length k1) (.slice none 0 0) (.bool false) (.slice none 0 0) (.slice none 0 0) HS1.out HT1.out.pat (by omega) hs8 hql1)
  go_wp2_with fail
  refine HA.out.mono ?_
  clear HA
  rcases hx : digitsS s q1 with y | d2
  · skip
    have HE : Hid (parseS s = .error (y.1, y.2)) := by have := HX1.out; rw [halfD_err hx] at this; exact this
    obtain ⟨he1, he2⟩ := digitsS_err hx
    rintro x w2 ⟨rfl, ⟨q, hS⟩, hk⟩
    have HSe := Lib.hid hS
    have HTe := Lib.hid (HT1.out.pe.step HN.out hk (by simp <;> omega))
    clear hS hk hx c0 c1 c2 c3 cf cz r0 r1 r2 r3 r4 r5 r6 r7 r8 r9 rf t0 t1 tf p0 p1 p2 p3 p4 p5 p6 p7 p8 p9 pf
    obtain ⟨c0, c1, c2, c3, cf, cz⟩ := HSe.out.all
    obtain ⟨⟨r0, r1, r2, r3, r4, r5, r6, r7, r8, r9, rf⟩, t0, t1, tf⟩ := HTe.out.cells
    go_wp2
    go_region
    all_goals
      go_wp2
      rw [HE.out]
      refine bodyPost_ret (v := .tuple #[zeroPat, .agg #[.int .i64 y.1, .int .i64 y.2]]) ?_ rfl ⟨rfl, (keep_res HTe.out.kp HN.out _ _ _ _ _ _ _ _ _ _ _ _).drew⟩
      simp [results, Tryd.results11, go_sem, zeroPat, r0, r1, r2, r3, r4, r5, r6, r7, r8, r9, t0, t1]
  rintro x w2 ⟨rfl, hS, hP, hk⟩
  have hql2 := digitsS_le hql1 hx
  have HOK2 := Lib.hid (digitsS_ok HOK1.out hx)
  have HX2 : Hid (parseS s = parseS2 s (halfA s l1 d2)) := by have := HX1.out; rw [halfD_ok hx] at this; exact this
  have HT2 := Lib.hid (HT1.out.dig HN.out hk hP)
  have HS2 := Lib.hid hS
  have HQ2 : Hid (Zp w2 (n + 1 + 1 + 1 + 1)) := Blk.keep HQz.out hk (by simp <;> omega)
  have hz2 : n + 5 ≤ w2.heap.size := Nat.le_trans hz1 hk.size
  have HA := Lib.hid (raffix_any w2 (n + 1 + 1) s d2.q (s.size + 1 - d2.q) hS hs8 hql2 HOK2.out (by omega))
  clear hS hP hk hx HQz c0 c1 c2 c3 cf cz r0 r1 r2 r3 r4 r5 r6 r7 r8 r9 rf t0 t1 tf p0 p1 p2 p3 p4 p5 p6 p7 p8 p9 pf
  have HQz := HQ2
  clear HQ2
  obtain ⟨c0, c1, c2, c3, cf, cz⟩ := HS2.out.all
  obtain ⟨⟨r0, r1, r2, r3, r4, r5, r6, r7, r8, r9, rf⟩, t0, t1, tf, p0, p1, p2, p3, p4, p5, p6, p7, p8, p9, pf⟩ := HT2.out.cells
  go_wp2_with fail
  clear c0 c1 c2 c3 cf cz r0 r1 r2 r3 r4 r5 r6 r7 r8 r9 rf t0 t1 tf p0 p1 p2 p3 p4 p5 p6 p7 p8 p9 pf
  refine HA.out.mono ?_
  clear HA
  rcases hx : aroundF s (s.size + 1 - d2.q) (d2.q) [] with y | ⟨l3, q3⟩
  · skip
    have HE : Hid (parseS s = .error (260, y)) := by have := HX2.out; rw [halfA_err hx] at this; exact this
    rintro x w3 ⟨rfl, ⟨q, hS⟩, hk⟩
    have HSe := Lib.hid hS
    have HTe := Lib.hid (HT2.out.step HN.out hk (by simp))
    have HTf := Lib.hid (HTe.out.suf HN.out (OwnA.nil _ _))
    clear hS hk hx
    obtain ⟨c0, c1, c2, c3, cf, cz⟩ := HSe.out.all
    obtain ⟨⟨r0, r1, r2, r3, r4, r5, r6, r7, r8, r9, rf⟩, t0, t1, tf, p0, p1, p2, p3, p4, p5, p6, p7, p8, p9, pf⟩ := HTe.out.cells
    go_wp2
    go_region
    all_goals
      go_wp2
      rw [HE.out]
      refine bodyPost_ret (v := .tuple #[zeroPat, .agg #[.int .i64 260, .int .i64 y]]) ?_ rfl ⟨rfl, (keep_res HTf.out.kp HN.out _ _ _ _ _ _ _ _ _ _ _ _).drew⟩
      simp [results, Tryd.results11, go_sem, zeroPat, r0, r1, r2, r3, r4, r5, r6, r7, r8, r9, t0, t1]
  rintro x w3 ⟨V, rfl, hO, hS, hk, hq, hql3, hok3⟩
  obtain ⟨A3, k3, rfl, -⟩ := hO.form
  have HX3 : Hid (parseS s = parseS2 s (.ok ⟨l1, d2, l3, q3⟩)) := by have := HX2.out; rw [halfA_ok hx] at this; exact this
  have HTa := Lib.hid (HT2.out.step HN.out hk (by simp))
  have hOm : OwnA w3 (n + 5) (.slice A3 l3.length k3) l3 := hO.mono hz2
  have HSa := Lib.hid hS
  have HT3 := Lib.hid (HTa.out.suf HN.out hOm)
  have HS3 : Hid (Sc (w3.setCell ⟨n + 1 + 1 + 1, 1, none⟩ (.slice A3 l3.length k3)) (n + 1 + 1) s q3 0 0) := Blk.far hS (by simp) _
  have HQ3 : Hid (Zp (w3.setCell ⟨n + 1 + 1 + 1, 1, none⟩ (.slice A3 l3.length k3)) (n + 1 + 1 + 1 + 1)) := Blk.far (Blk.keep HQz.out hk (by simp <;> omega)) (by simp <;> omega) _
  have HOK3 := Lib.hid hok3
  have hz3 : n + 5 ≤ (w3.setCell ⟨n + 1 + 1 + 1, 1, none⟩ (.slice A3 l3.length k3)).heap.size := by have h1 := hk.size; have h2 := hz2; simp only [World.setCell, Array.size_modify]; omega
  clear hS hk hx hO hOm hq HQz hok3
  obtain ⟨c0, c1, c2, c3, cf, cz⟩ := HSa.out.all
  obtain ⟨⟨r0, r1, r2, r3, r4, r5, r6, r7, r8, r9, rf⟩, t0, t1, tf, p0, p1, p2, p3, p4, p5, p6, p7, p8, p9, pf⟩ := HTa.out.cells
  have HQz := HQ3
  clear HQ3
  have hqe3 : (q3 : Int) ≤ s.size := by omega
  have HI0 := Lib.hid (is_any (w3.setCell ⟨n + 1 + 1 + 1, 1, none⟩ (.slice A3 l3.length k3)) (n + 1 + 1) s q3 0 0 ⟨#[59]⟩ HS3.out hql3)
  by_cases h59 : isB s q3 59
  rotate_left
  · have HI := HI0
    rw [pre_no (b := 59) h59] at HI
    clear HI0
    by_cases hlt : q3 < s.size
    · skip
      have HE : Hid (parseS s = .error (260, q3)) := by unfold Hid; rw [HX3.out]; unfold parseS2; simp only [if_neg h59, if_pos hlt]
      have hlt2 : decide (q3 < s.size) = true := decide_eq_true hlt
      clear hlt
      have HWr := Lib.hid (wrong_any (w3.setCell ⟨n + 1 + 1 + 1, 1, none⟩ (.slice A3 l3.length k3)).drew (n + 1 + 1) s q3 0 260 q3 HS3.out)
      go_wp2_with (first | (go_at_call 39; refine HI.out.mono ?_; rintro x w' ⟨rfl, rfl⟩) | (go_at_call 40; refine HWr.out.mono ?_; rintro x w9 ⟨rfl, hS9, hk9⟩; have HSe := Lib.hid hS9; have HTe := Lib.hid ((HT3.out.drew).step HN.out hk9 (by simp)); clear c0 c1 c2 c3 cf cz r0 r1 r2 r3 r4 r5 r6 r7 r8 r9 rf t0 t1 tf p0 p1 p2 p3 p4 p5 p6 p7 p8 p9 pf; obtain ⟨c0, c1, c2, c3, cf, cz⟩ := HSe.out.all; obtain ⟨⟨r0, r1, r2, r3, r4, r5, r6, r7, r8, r9, rf⟩, t0, t1, tf, p0, p1, p2, p3, p4, p5, p6, p7, p8, p9, pf⟩ := HTe.out.cells; clear hS9 hk9))
      go_region
      all_goals
        go_wp2
        rw [HE.out]
        refine bodyPost_ret (v := .tuple #[zeroPat, .agg #[.int .i64 260, .int .i64 q3]]) ?_ rfl ⟨rfl, (keep_res HTe.out.kp HN.out _ _ _ _ _ _ _ _ _ _ _ _).drew⟩
        simp [results, Tryd.results11, go_sem, zeroPat, r0, r1, r2, r3, r4, r5, r6, r7, r8, r9, t0, t1]
    · skip
      have HE : Hid (parseS s = .ok ⟨l1, l3, false, [], [], d2⟩) := by unfold Hid; rw [HX3.out]; unfold parseS2; simp only [if_neg h59, if_neg hlt]
      have hlt2 : decide (q3 < s.size) = false := decide_eq_false hlt
      clear hlt
      go_wp2_with (go_at_call 39; refine HI.out.mono ?_; rintro x w' ⟨rfl, rfl⟩)
      rw [HE.out]
      have HTz := HT3.out
      refine bodyPost_ret (v := .tuple #[patV (.slice A1 l1.length k1) (.slice A3 l3.length k3) (.slice none 0 0) (.slice none 0 0) (patOf ⟨l1, l3, false, [], [], d2⟩), .agg #[.int .i64 0, .int .i64 0]]) ?_ rfl ⟨(.slice A1 l1.length k1), (.slice A3 l3.length k3), (.slice none 0 0), (.slice none 0 0), rfl, ⟨?_, ?_, ?_, ?_⟩, (keep_res HTz.kp HN.out _ _ _ _ _ _ _ _ _ _ _ _).drew⟩
      · simp [results, Tryd.results11, go_sem, patV, patOf, r0, r1, r2, r3, r4, r5, r6, r7, r8, r9, t0, t1]
      · exact RdA.dr1 (HTz.o1.far12 (by omega) (by omega) _ _ _ _ _ _ _ _ _ _ _ _).reads
      · exact RdA.dr1 (HTz.o2.far12 (by omega) (by omega) _ _ _ _ _ _ _ _ _ _ _ _).reads
      · exact RdA.dr1 (HTz.o3.far12 (by omega) (by omega) _ _ _ _ _ _ _ _ _ _ _ _).reads
      · exact RdA.dr1 (HTz.o4.far12 (by omega) (by omega) _ _ _ _ _ _ _ _ _ _ _ _).reads
  have HI := HI0
  rw [pre_yes (b := 59) h59] at HI
  have HX4 : Hid (parseS s = parseS3 s ⟨l1, d2, l3, q3⟩ (halfS s (q3 + 1))) := by have := HX3.out; unfold Hid; rw [this]; unfold parseS2; simp only [if_pos h59]
  have hq4 : q3 + 1 ≤ s.size := h59.1
  have HOK4 := Lib.hid (okAt_byte HOK3.out h59 (by omega))
  have HT4 : Hid (PT w (((w3.setCell ⟨n + 1 + 1 + 1, 1, none⟩ (.slice A3 l3.length k3)).drew.setCell ⟨n + 1 + 1, 1, none⟩ (.int .i64 ((q3 : Int) + 1))).setCell ⟨n + 1 + 1 + 1, 2, none⟩ (.bool true)) n (.slice A1 l1.length k1) (.slice A3 l3.length k3) (.bool true) (.slice none 0 0) (.slice none 0 0) l1 l3 [] [] d2.mi d2.mf d2.xf d2.g1 d2.g2) := (HT3.out.drew.step HN.out ((Keep.refl [n + 1 + 1] _).setCell (.inl (by simp)) _) (by simp)).neg HN.out
  have HS4 : Hid (Sc (((w3.setCell ⟨n + 1 + 1 + 1, 1, none⟩ (.slice A3 l3.length k3)).drew.setCell ⟨n + 1 + 1, 1, none⟩ (.int .i64 ((q3 : Int) + 1))).setCell ⟨n + 1 + 1 + 1, 2, none⟩ (.bool true)) (n + 1 + 1) s ((q3 + 1 : Nat) : Int) 0 0) := Blk.far (Sc.placeZ (w := (w3.setCell ⟨n + 1 + 1 + 1, 1, none⟩ (.slice A3 l3.length k3)).drew) HS3.out _ (q3 + 1) (by omega)) (by simp) _
  have HQ4 : Hid (Zp (((w3.setCell ⟨n + 1 + 1 + 1, 1, none⟩ (.slice A3 l3.length k3)).drew.setCell ⟨n + 1 + 1, 1, none⟩ (.int .i64 ((q3 : Int) + 1))).setCell ⟨n + 1 + 1 + 1, 2, none⟩ (.bool true)) (n + 1 + 1 + 1 + 1)) := Blk.far (Blk.far (Blk.drew HQz.out) (by simp <;> omega) _) (by simp <;> omega) _
  have hz4 : n + 5 ≤ (((w3.setCell ⟨n + 1 + 1 + 1, 1, none⟩ (.slice A3 l3.length k3)).drew.setCell ⟨n + 1 + 1, 1, none⟩ (.int .i64 ((q3 : Int) + 1))).setCell ⟨n + 1 + 1 + 1, 2, none⟩ (.bool true)).heap.size := by have h1 := hz3; simp only [World.setCell, Array.size_modify, World.drew] at h1 ⊢; exact h1
  have HA := Lib.hid (raffix_any (((w3.setCell ⟨n + 1 + 1 + 1, 1, none⟩ (.slice A3 l3.length k3)).drew.setCell ⟨n + 1 + 1, 1, none⟩ (.int .i64 ((q3 : Int) + 1))).setCell ⟨n + 1 + 1 + 1, 2, none⟩ (.bool true)) (n + 1 + 1) s (q3 + 1) (s.size + 1 - (q3 + 1)) HS4.out hs8 hq4 HOK4.out (by omega))
  clear HQz HI0 h59
  have HQz := HQ4
  clear HQ4
  go_wp2_with (go_at_call 39; refine HI.out.mono ?_; rintro x w' ⟨rfl, rfl⟩)
  refine HA.out.mono ?_
  clear HA
  rcases hx : aroundF s (s.size + 1 - (q3 + 1)) (q3 + 1) [] with y | ⟨l5, q5⟩
  · skip
    have HE : Hid (parseS s = .error (260, y)) := by have := HX4.out; rw [halfS_err hx] at this; exact this
    rintro x w5 ⟨rfl, ⟨q, hS⟩, hk⟩
    have HSe := Lib.hid hS
    have HTe := Lib.hid (HT4.out.step HN.out hk (by simp))
    have HTf := Lib.hid (HTe.out.npre HN.out (OwnA.nil _ _))
    clear hS hk hx
    obtain ⟨c0, c1, c2, c3, cf, cz⟩ := HSe.out.all
    obtain ⟨⟨r0, r1, r2, r3, r4, r5, r6, r7, r8, r9, rf⟩, t0, t1, tf, p0, p1, p2, p3, p4, p5, p6, p7, p8, p9, pf⟩ := HTe.out.cells
    go_wp2
    go_region
    all_goals
      go_wp2
      rw [HE.out]
      refine bodyPost_ret (v := .tuple #[zeroPat, .agg #[.int .i64 260, .int .i64 y]]) ?_ rfl ⟨rfl, (keep_res HTf.out.kp HN.out _ _ _ _ _ _ _ _ _ _ _ _).drew⟩
      simp [results, Tryd.results11, go_sem, zeroPat, r0, r1, r2, r3, r4, r5, r6, r7, r8, r9, t0, t1]
  rintro x w5 ⟨V, rfl, hO, hS, hk, hq, hql5, hok5⟩
  obtain ⟨A5, k5, rfl, -⟩ := hO.form
  have HX5 : Hid (parseS s = parseS3 s ⟨l1, d2, l3, q3⟩ (halfD s l5 q5)) := by have := HX4.out; rw [halfS_ok hx] at this; exact this
  have HTa := Lib.hid (HT4.out.step HN.out hk (by simp))
  have hOm : OwnA w5 (n + 5) (.slice A5 l5.length k5) l5 := hO.mono hz4
  have HSa := Lib.hid hS
  have HT5 := Lib.hid (HTa.out.npre HN.out hOm)
  have HS5 : Hid (Sc (w5.setCell ⟨n + 1 + 1 + 1, 3, none⟩ (.slice A5 l5.length k5)) (n + 1 + 1) s q5 0 0) := Blk.far hS (by simp) _
  have HQ5 : Hid (Zp (w5.setCell ⟨n + 1 + 1 + 1, 3, none⟩ (.slice A5 l5.length k5)) (n + 1 + 1 + 1 + 1)) := Blk.far (Blk.keep HQz.out hk (by simp <;> omega)) (by simp <;> omega) _
  have HOK5 := Lib.hid hok5
  have hz5 : n + 5 ≤ (w5.setCell ⟨n + 1 + 1 + 1, 3, none⟩ (.slice A5 l5.length k5)).heap.size := by have h1 := hk.size; have h2 := hz4; simp only [World.setCell, Array.size_modify]; omega
  clear hS hk hx hO hOm hq HQz hok5
  obtain ⟨c0, c1, c2, c3, cf, cz⟩ := HSa.out.all
  obtain ⟨⟨r0, r1, r2, r3, r4, r5, r6, r7, r8, r9, rf⟩, t0, t1, tf, p0, p1, p2, p3, p4, p5, p6, p7, p8, p9, pf⟩ := HTa.out.cells
  have HQz := HQ5
  clear HQ5
  have hqe5 : (q5 : Int) ≤ s.size := by omega
  have HA := Lib.hid (rdigs_any (w5.setCell ⟨n + 1 + 1 + 1, 3, none⟩ (.slice A5 l5.length k5)) (n + 1 + 1) (n + 1 + 1 + 1 + 1) s q5 (.slice none 0 0) (.slice none 0 0) (.bool false) (.slice none 0 0) (.slice none 0 0) HS5.out HQz.out (by omega) hs8 hql5)
  go_wp2_with fail
  refine HA.out.mono ?_
  clear HA
  rcases hx : digitsS s q5 with y | d6
  · skip
    have HE : Hid (parseS s = .error (y.1, y.2)) := by have := HX5.out; rw [halfD_err hx] at this; exact this
    obtain ⟨he1, he2⟩ := digitsS_err hx
    rintro x w6 ⟨rfl, ⟨q, hS⟩, hk⟩
    have HSe := Lib.hid hS
    have HTe := Lib.hid (HT5.out.pe.step HN.out hk (by simp <;> omega))
    clear hS hk hx c0 c1 c2 c3 cf cz r0 r1 r2 r3 r4 r5 r6 r7 r8 r9 rf t0 t1 tf p0 p1 p2 p3 p4 p5 p6 p7 p8 p9 pf
    obtain ⟨c0, c1, c2, c3, cf, cz⟩ := HSe.out.all
    obtain ⟨⟨r0, r1, r2, r3, r4, r5, r6, r7, r8, r9, rf⟩, t0, t1, tf⟩ := HTe.out.cells
    go_wp2
    go_region
    all_goals
      go_wp2
      rw [HE.out]
      refine bodyPost_ret (v := .tuple #[zeroPat, .agg #[.int .i64 y.1, .int .i64 y.2]]) ?_ rfl ⟨rfl, (keep_res HTe.out.kp HN.out _ _ _ _ _ _ _ _ _ _ _ _).drew⟩
      simp [results, Tryd.results11, go_sem, zeroPat, r0, r1, r2, r3, r4, r5, r6, r7, r8, r9, t0, t1]
  rintro x w6 ⟨rfl, hS, hP, hk⟩
  have hql6 := digitsS_le hql5 hx
  have HOK6 := Lib.hid (digitsS_ok HOK5.out hx)
  have HX6 : Hid (parseS s = parseS3 s ⟨l1, d2, l3, q3⟩ (halfA s l5 d6)) := by have := HX5.out; rw [halfD_ok hx] at this; exact this
  have HT6 := Lib.hid (HT5.out.step HN.out hk (by simp))
  have HS6 := Lib.hid hS
  have hz6 : n + 5 ≤ w6.heap.size := Nat.le_trans hz5 hk.size
  have HA := Lib.hid (raffix_any w6 (n + 1 + 1) s d6.q (s.size + 1 - d6.q) hS hs8 hql6 HOK6.out (by omega))
  clear hS hP hk hx HQz c0 c1 c2 c3 cf cz r0 r1 r2 r3 r4 r5 r6 r7 r8 r9 rf t0 t1 tf p0 p1 p2 p3 p4 p5 p6 p7 p8 p9 pf
  obtain ⟨c0, c1, c2, c3, cf, cz⟩ := HS6.out.all
  obtain ⟨⟨r0, r1, r2, r3, r4, r5, r6, r7, r8, r9, rf⟩, t0, t1, tf, p0, p1, p2, p3, p4, p5, p6, p7, p8, p9, pf⟩ := HT6.out.cells
  go_wp2_with fail
  clear c0 c1 c2 c3 cf cz r0 r1 r2 r3 r4 r5 r6 r7 r8 r9 rf t0 t1 tf p0 p1 p2 p3 p4 p5 p6 p7 p8 p9 pf
  refine HA.out.mono ?_
  clear HA
  rcases hx : aroundF s (s.size + 1 - d6.q) (d6.q) [] with y | ⟨l7, q7⟩
  · skip
    have HE : Hid (parseS s = .error (260, y)) := by have := HX6.out; rw [halfA_err hx] at this; exact this
    rintro x w7 ⟨rfl, ⟨q, hS⟩, hk⟩
    have HSe := Lib.hid hS
    have HTe := Lib.hid (HT6.out.step HN.out hk (by simp))
    have HTf := Lib.hid (HTe.out.nsuf HN.out (OwnA.nil _ _))
    clear hS hk hx
    obtain ⟨c0, c1, c2, c3, cf, cz⟩ := HSe.out.all
    obtain ⟨⟨r0, r1, r2, r3, r4, r5, r6, r7, r8, r9, rf⟩, t0, t1, tf, p0, p1, p2, p3, p4, p5, p6, p7, p8, p9, pf⟩ := HTe.out.cells
    go_wp2
    go_region
    all_goals
      go_wp2
      rw [HE.out]
      refine bodyPost_ret (v := .tuple #[zeroPat, .agg #[.int .i64 260, .int .i64 y]]) ?_ rfl ⟨rfl, (keep_res HTf.out.kp HN.out _ _ _ _ _ _ _ _ _ _ _ _).drew⟩
      simp [results, Tryd.results11, go_sem, zeroPat, r0, r1, r2, r3, r4, r5, r6, r7, r8, r9, t0, t1]
  rintro x w7 ⟨V, rfl, hO, hS, hk, hq, hql7, hok7⟩
  obtain ⟨A7, k7, rfl, -⟩ := hO.form
  have HX7 : Hid (parseS s = parseS3 s ⟨l1, d2, l3, q3⟩ (.ok ⟨l5, d6, l7, q7⟩)) := by have := HX6.out; rw [halfA_ok hx] at this; exact this
  have HTa := Lib.hid (HT6.out.step HN.out hk (by simp))
  have hOm : OwnA w7 (n + 5) (.slice A7 l7.length k7) l7 := hO.mono hz6
  have HSa := Lib.hid hS
  have HT7 := Lib.hid (HTa.out.nsuf HN.out hOm)
  have HS7 : Hid (Sc (w7.setCell ⟨n + 1 + 1 + 1, 4, none⟩ (.slice A7 l7.length k7)) (n + 1 + 1) s q7 0 0) := Blk.far hS (by simp) _
  have HOK7 := Lib.hid hok7
  have hz7 : n + 5 ≤ (w7.setCell ⟨n + 1 + 1 + 1, 4, none⟩ (.slice A7 l7.length k7)).heap.size := by have h1 := hk.size; have h2 := hz6; simp only [World.setCell, Array.size_modify]; omega
  clear hS hk hx hO hOm hq hok7
  obtain ⟨c0, c1, c2, c3, cf, cz⟩ := HSa.out.all
  obtain ⟨⟨r0, r1, r2, r3, r4, r5, r6, r7, r8, r9, rf⟩, t0, t1, tf, p0, p1, p2, p3, p4, p5, p6, p7, p8, p9, pf⟩ := HTa.out.cells
  have hqe7 : (q7 : Int) ≤ s.size := by omega
  by_cases hlt : q7 < s.size
  · skip
    have HE : Hid (parseS s = .error (260, q7)) := by unfold Hid; rw [HX7.out]; unfold parseS3; simp only [if_pos hlt]
    have hlt2 : decide (q7 < s.size) = true := decide_eq_true hlt
    clear hlt
    have HWr := Lib.hid (wrong_any (w7.setCell ⟨n + 1 + 1 + 1, 4, none⟩ (.slice A7 l7.length k7)) (n + 1 + 1) s q7 0 260 q7 HS7.out)
    go_wp2_with (first | (go_at_call 40; refine HWr.out.mono ?_; rintro x w9 ⟨rfl, hS9, hk9⟩; have HSe := Lib.hid hS9; have HTe := Lib.hid ((HT7.out).step HN.out hk9 (by simp)); clear c0 c1 c2 c3 cf cz r0 r1 r2 r3 r4 r5 r6 r7 r8 r9 rf t0 t1 tf p0 p1 p2 p3 p4 p5 p6 p7 p8 p9 pf; obtain ⟨c0, c1, c2, c3, cf, cz⟩ := HSe.out.all; obtain ⟨⟨r0, r1, r2, r3, r4, r5, r6, r7, r8, r9, rf⟩, t0, t1, tf, p0, p1, p2, p3, p4, p5, p6, p7, p8, p9, pf⟩ := HTe.out.cells; clear hS9 hk9))
    go_region
    all_goals
      go_wp2
      rw [HE.out]
      refine bodyPost_ret (v := .tuple #[zeroPat, .agg #[.int .i64 260, .int .i64 q7]]) ?_ rfl ⟨rfl, (keep_res HTe.out.kp HN.out _ _ _ _ _ _ _ _ _ _ _ _).drew⟩
      simp [results, Tryd.results11, go_sem, zeroPat, r0, r1, r2, r3, r4, r5, r6, r7, r8, r9, t0, t1]
  · skip
    have HE : Hid (parseS s = .ok ⟨l1, l3, true, l5, l7, d2⟩) := by unfold Hid; rw [HX7.out]; unfold parseS3; simp only [if_neg hlt]
    have hlt2 : decide (q7 < s.size) = false := decide_eq_false hlt
    clear hlt
    go_wp2_with fail
    rw [HE.out]
    have HTz := HT7.out
    refine bodyPost_ret (v := .tuple #[patV (.slice A1 l1.length k1) (.slice A3 l3.length k3) (.slice A5 l5.length k5) (.slice A7 l7.length k7) (patOf ⟨l1, l3, true, l5, l7, d2⟩), .agg #[.int .i64 0, .int .i64 0]]) ?_ rfl ⟨(.slice A1 l1.length k1), (.slice A3 l3.length k3), (.slice A5 l5.length k5), (.slice A7 l7.length k7), rfl, ⟨?_, ?_, ?_, ?_⟩, keep_res HTz.kp HN.out _ _ _ _ _ _ _ _ _ _ _ _⟩
    · simp [results, Tryd.results11, go_sem, patV, patOf, r0, r1, r2, r3, r4, r5, r6, r7, r8, r9, t0, t1]
    · exact RdA.dr0 (HTz.o1.far12 (by omega) (by omega) _ _ _ _ _ _ _ _ _ _ _ _).reads
    · exact RdA.dr0 (HTz.o2.far12 (by omega) (by omega) _ _ _ _ _ _ _ _ _ _ _ _).reads
    · exact RdA.dr0 (HTz.o3.far12 (by omega) (by omega) _ _ _ _ _ _ _ _ _ _ _ _).reads
    · exact RdA.dr0 (HTz.o4.far12 (by omega) (by omega) _ _ _ _ _ _ _ _ _ _ _ _).reads
end Go.Proofs.YtkkglaglnfebjaaDoor
