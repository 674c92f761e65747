/- Walks: numpat.Parse. -/
import Derived.Test.YtkkglaglnfebjaaDoorWHalf
namespace Go.Proofs.YtkkglaglnfebjaaDoor
open Go.RowKit

def zeroPat : Value := .agg #[.slice none 0 0, .slice none 0 0, .bool false, .slice none 0 0, .slice none 0 0, .int .i64 0, .int .i64 0, .int .i64 0, .int .i64 0, .int .i64 0]
/-- What Parse hands back. -/
def PPost (w : World) : Except (Int × Int) PRes → Ending → World → Prop
  | .ok r, x, w' => ∃ v1 v2 v3 v4 M1 M2 M3, x = .returned (.tuple #[.agg #[v1, v2, .bool r.neg, v3, v4, .int .i64 r.d.mi, .int .i64 r.d.mf, .int .i64 r.d.xf, .int .i64 r.d.g1, .int .i64 r.d.g2], .agg #[.int .i64 0, .int .i64 0]]) ∧
      OwnA w' w.heap.size v1 r.pre ∧ OwnA w' M1 v2 r.suf ∧ OwnA w' M2 v3 r.npre ∧ OwnA w' M3 v4 r.nsuf ∧ (∀ x ∈ v1.ownBlock.toList, x < M1) ∧ (∀ x ∈ v2.ownBlock.toList, x < M2) ∧ (∀ x ∈ v3.ownBlock.toList, x < M3) ∧
      w.heap.size ≤ M1 ∧ M1 ≤ M2 ∧ M2 ≤ M3 ∧ Below w.heap.size w w'
  | .error y, x, w' => x = .returned (.tuple #[zeroPat, .agg #[.int .i64 y.1, .int .i64 y.2]]) ∧ Below w.heap.size w w'
theorem PPost.err {w w' : World} {y z : Int} (hb : Below w.heap.size w w') : PPost w (.error (y, z)) (.returned (.tuple #[zeroPat, .agg #[.int .i64 y, .int .i64 z]])) w' := ⟨rfl, hb⟩

theorem Pat.all {w : World} {h : Nat} {vp vs vn np ns : Value} {mi mf xf g1 g2 : Int} (H : Pat w h vp vs vn np ns mi mf xf g1 g2) :
    w.cell? ⟨h, 0, none⟩ = some vp ∧ w.cell? ⟨h, 1, none⟩ = some vs ∧ w.cell? ⟨h, 2, none⟩ = some vn ∧ w.cell? ⟨h, 3, none⟩ = some np ∧ w.cell? ⟨h, 4, none⟩ = some ns ∧
    w.cell? ⟨h, 5, none⟩ = some (.int .i64 mi) ∧ w.cell? ⟨h, 6, none⟩ = some (.int .i64 mf) ∧ w.cell? ⟨h, 7, none⟩ = some (.int .i64 xf) ∧ w.cell? ⟨h, 8, none⟩ = some (.int .i64 g1) ∧ w.cell? ⟨h, 9, none⟩ = some (.int .i64 g2) ∧ ∀ i, w.frozen? ⟨h, i, none⟩ = false :=
  ⟨H.cell_eq rfl, H.cell_eq rfl, H.cell_eq rfl, H.cell_eq rfl, H.cell_eq rfl, H.cell_eq rfl, H.cell_eq rfl, H.cell_eq rfl, H.cell_eq rfl, H.cell_eq rfl, H.frozen⟩
/-- A Spot in block h. -/
def Sp (w : World) (h : Nat) (x y : Int) : Prop := Blk w h 28 #[.int .i64 x, .int .i64 y]
theorem Sp.all {w : World} {h : Nat} {x y : Int} (H : Sp w h x y) : w.cell? ⟨h, 0, none⟩ = some (.int .i64 x) ∧ w.cell? ⟨h, 1, none⟩ = some (.int .i64 y) ∧ ∀ i, w.frozen? ⟨h, i, none⟩ = false := ⟨H.cell_eq rfl, H.cell_eq rfl, H.frozen⟩
theorem below_store12 {B n m : Nat} {a w : World} (h : Below B a w) (hn : B ≤ n) (hm : B ≤ m) (v0 v1 v2 v3 v4 v5 v6 v7 v8 v9 x y : Value) :
    Below B a ((((((((((((w.setCell ⟨n, 0, none⟩ v0).setCell ⟨n, 1, none⟩ v1).setCell ⟨n, 2, none⟩ v2).setCell ⟨n, 3, none⟩ v3).setCell ⟨n, 4, none⟩ v4).setCell ⟨n, 5, none⟩ v5).setCell ⟨n, 6, none⟩ v6).setCell ⟨n, 7, none⟩ v7).setCell ⟨n, 8, none⟩ v8).setCell ⟨n, 9, none⟩ v9).setCell ⟨m, 0, none⟩ x).setCell ⟨m, 1, none⟩ y) := ((((((((((((h.setCell (p := ⟨n, 0, none⟩) hn _).setCell (p := ⟨n, 1, none⟩) hn _).setCell (p := ⟨n, 2, none⟩) hn _).setCell (p := ⟨n, 3, none⟩) hn _).setCell (p := ⟨n, 4, none⟩) hn _).setCell (p := ⟨n, 5, none⟩) hn _).setCell (p := ⟨n, 6, none⟩) hn _).setCell (p := ⟨n, 7, none⟩) hn _).setCell (p := ⟨n, 8, none⟩) hn _).setCell (p := ⟨n, 9, none⟩) hn _).setCell (p := ⟨m, 0, none⟩) hm _).setCell (p := ⟨m, 1, none⟩) hm _)
theorem PPost.ok {w w' : World} {r : PRes} {v1 v2 v3 v4 : Value} (M1 M2 M3 : Nat) (o1 : OwnA w' w.heap.size v1 r.pre) (o2 : OwnA w' M1 v2 r.suf) (o3 : OwnA w' M2 v3 r.npre) (o4 : OwnA w' M3 v4 r.nsuf)
    (b1 : ∀ x ∈ v1.ownBlock.toList, x < M1) (b2 : ∀ x ∈ v2.ownBlock.toList, x < M2) (b3 : ∀ x ∈ v3.ownBlock.toList, x < M3) (m1 : w.heap.size ≤ M1) (m2 : M1 ≤ M2) (m3 : M2 ≤ M3) (hb : Below w.heap.size w w') :
    PPost w (.ok r) (.returned (.tuple #[.agg #[v1, v2, .bool r.neg, v3, v4, .int .i64 r.d.mi, .int .i64 r.d.mf, .int .i64 r.d.xf, .int .i64 r.d.g1, .int .i64 r.d.g2], .agg #[.int .i64 0, .int .i64 0]])) w' :=
  ⟨v1, v2, v3, v4, M1, M2, M3, rfl, o1, o2, o3, o4, b1, b2, b3, m1, m2, m3, hb⟩
/-- Stores into blocks below a base keep what is owned from it on. -/
theorem OwnA.far {w : World} {B : Nat} {v : Value} {l : List Aff} (h : OwnA w B v l) {p : Addr} (hp : p.block < B) (u : Value) : OwnA (w.setCell p u) B v l :=
  h.keep (bs := [p.block]) ((Keep.refl _ _).setCell (.inl (by simp)) _) (fun x hx hc => by have := h.lt x hx; simp at hc; omega)
theorem OwnA.far12 {w : World} {B n m : Nat} {v : Value} {l : List Aff} (h : OwnA w B v l) (hn : n < B) (hm : m < B) (v0 v1 v2 v3 v4 v5 v6 v7 v8 v9 x y : Value) :
    OwnA ((((((((((((w.setCell ⟨n, 0, none⟩ v0).setCell ⟨n, 1, none⟩ v1).setCell ⟨n, 2, none⟩ v2).setCell ⟨n, 3, none⟩ v3).setCell ⟨n, 4, none⟩ v4).setCell ⟨n, 5, none⟩ v5).setCell ⟨n, 6, none⟩ v6).setCell ⟨n, 7, none⟩ v7).setCell ⟨n, 8, none⟩ v8).setCell ⟨n, 9, none⟩ v9).setCell ⟨m, 0, none⟩ x).setCell ⟨m, 1, none⟩ y) B v l := ((((((((((((h.far (p := ⟨n, 0, none⟩) hn _).far (p := ⟨n, 1, none⟩) hn _).far (p := ⟨n, 2, none⟩) hn _).far (p := ⟨n, 3, none⟩) hn _).far (p := ⟨n, 4, none⟩) hn _).far (p := ⟨n, 5, none⟩) hn _).far (p := ⟨n, 6, none⟩) hn _).far (p := ⟨n, 7, none⟩) hn _).far (p := ⟨n, 8, none⟩) hn _).far (p := ⟨n, 9, none⟩) hn _).far (p := ⟨m, 0, none⟩) hm _).far (p := ⟨m, 1, none⟩) hm _)
theorem OwnA.far3 {w : World} {B n : Nat} {v : Value} {l : List Aff} (h : OwnA w B v l) (hn : n < B) (x y z : Value) :
    OwnA (((w.setCell ⟨n, 2, none⟩ x).setCell ⟨n, 3, none⟩ y).setCell ⟨n, 4, none⟩ z) B v l := ((h.far (p := ⟨n, 2, none⟩) hn _).far (p := ⟨n, 3, none⟩) hn _).far (p := ⟨n, 4, none⟩) hn _
theorem below_store3 {B n : Nat} {a w : World} (h : Below B a w) (hn : B ≤ n) (x y z : Value) :
    Below B a (((w.setCell ⟨n, 2, none⟩ x).setCell ⟨n, 3, none⟩ y).setCell ⟨n, 4, none⟩ z) := ((h.setCell (p := ⟨n, 2, none⟩) hn _).setCell (p := ⟨n, 3, none⟩) hn _).setCell (p := ⟨n, 4, none⟩) hn _
theorem OwnA.mono {w : World} {B C : Nat} {v : Value} {l : List Aff} (h : OwnA w B v l) (hC : C ≤ B) : OwnA w C v l := by
  refine ⟨h.1, ?_⟩
  rcases h.2 with hn | ⟨g, cap, cur, hv, hB, rest⟩
  · exact .inl hn
  · exact .inr ⟨g, cap, cur, hv, Nat.le_trans hC hB, rest⟩
/-- The zero pattern in block h. -/
def Zp (w : World) (h : Nat) : Prop := Pat w h (.slice none 0 0) (.slice none 0 0) (.bool false) (.slice none 0 0) (.slice none 0 0) 0 0 0 0 0
/-- The memory at Parse's first half. -/
def parseW (w2 : World) (s : ByteArray) : World := (((w2.alloc (.cells #[.int .i64 0, .int .i64 0] 28)).alloc (.cells #[.string s, .int .i64 0, .int .i64 0, .int .i64 0] 77)).alloc (.cells #[.slice none 0 0, .slice none 0 0, .bool false, .slice none 0 0, .slice none 0 0, .int .i64 0, .int .i64 0, .int .i64 0, .int .i64 0, .int .i64 0] 25)).alloc (.cells #[.slice none 0 0, .slice none 0 0, .bool false, .slice none 0 0, .slice none 0 0, .int .i64 0, .int .i64 0, .int .i64 0, .int .i64 0, .int .i64 0] 25)
theorem parseW_is (w2 : World) (s : ByteArray) (n : Nat) (hn : w2.heap.size = n) : Rd (parseW w2 s) (n + 1) s 0 0 0 ∧ Zp (parseW w2 s) (n + 1 + 1) ∧ Zp (parseW w2 s) (n + 1 + 1 + 1) ∧ Keep [] w2 (parseW w2 s) ∧ (parseW w2 s).heap.size = n + 4 := by
  subst hn
  refine ⟨Blk.alloc (Blk.alloc (Blk.new' _ _ _ _ (by simp)) _) _, Blk.alloc (Blk.new' _ _ _ _ (by simp)) _, Blk.new' _ _ _ _ (by simp), ((((Keep.refl _ _).alloc _).alloc _).alloc _).alloc _, by simp [parseW]⟩

set_option maxRecDepth 100000 in
set_option maxHeartbeats 2000000 in
theorem parse_any {B : Nat} (w : World) (s : ByteArray) (hE : Env B w) (hs : s.size ≤ 9223372036854775000) :
    Calls Tryd.prog 12 #[.string s] w (PPost w (parseS s)) := by
  by_cases h1 : 4096 < s.size
  · have HS : Hid (parseS s = .error (3, 4096)) := by unfold Hid parseS; rw [if_pos h1]
    go_enter Tryd.func12, Tryd.ntmps12
    go_wp2
    rw [HS.out]
    exact bodyPost_ret (v := .tuple #[zeroPat, .agg #[.int .i64 3, .int .i64 4096]]) (by simp [results, Tryd.results12, go_sem, zeroPat]) rfl (PPost.err (((Below.refl _ _).alloc (Nat.le_refl _) _).alloc (by simp) _))
  have hC : ∀ W, Hid (Calls Tryd.prog 41 #[.string s] W fun e w' => e = .returned (.agg #[.int .i64 (spotErr s), .int .i64 (spotAt s)]) ∧ Below W.heap.size W w') := fun W => check_any s W hs
  by_cases h2 : brk s < 0
  · have HC : ∀ W, Hid (Calls Tryd.prog 41 #[.string s] W fun e w' => e = .returned (.agg #[.int .i64 0, .int .i64 0]) ∧ Below W.heap.size W w') := fun W => by
      have := (hC W).out
      unfold spotErr spotAt at this
      rw [if_pos h2, if_pos h2] at this
      exact this
    have HS : Hid (parseS s = parseS2 s (halfS s 0)) := by
      unfold Hid parseS
      rw [if_neg h1, if_neg (by simpa using h2)]
    clear hC h2
    have hs4 : s.size ≤ 4096 := by omega
    go_enter Tryd.func12, Tryd.ntmps12
    go_wp2_with fail
    refine (HC _).out.mono ?_
    rintro x w2 ⟨rfl, hb⟩
    have b0 : Pat w2 w.heap.size (.slice none 0 0) (.slice none 0 0) (.bool false) (.slice none 0 0) (.slice none 0 0) 0 0 0 0 0 := Blk.below (Blk.alloc (Blk.new w 25 _) _) hb (by simp; omega)
    have b1 : Sp w2 (w.heap.size + 1) 0 0 := Blk.below (Blk.new' (w.alloc _) 28 _ (w.heap.size + 1) (by simp)) hb (by simp)
    have hbw := (((Below.refl w.heap.size w).alloc (Nat.le_refl _) (.cells #[.slice none 0 0, .slice none 0 0, .bool false, .slice none 0 0, .slice none 0 0, .int .i64 0, .int .i64 0, .int .i64 0, .int .i64 0, .int .i64 0] 25)).alloc (by simp) (.cells #[.int .i64 0, .int .i64 0] 28)).trans (hb.mono (by simp; omega))
    have hz0 : w.heap.size < w2.heap.size := by have := hb.size; simp at this; omega
    have hz1 : w.heap.size + 1 < w2.heap.size := by have := hb.size; simp at this; omega
    have HBW := Lib.hid hbw
    have HB0 := Lib.hid b0
    have HB1 := Lib.hid b1
    obtain ⟨p0, p1, p2, p3, p4, p5, p6, p7, p8, p9, pf⟩ := b0.all
    obtain ⟨q0, q1, qf⟩ := b1.all
    clear hb b0 b1 hbw
    have HE2 := Lib.hid ((hE.below (HBW.out.mono hE.le)))
    go_wp2_with fail
    obtain ⟨n2, hn2⟩ : ∃ n2, w2.heap.size = n2 := ⟨_, rfl⟩
    rw [hn2] at hz0 hz1
    rw [hn2]
    obtain ⟨hR, hP, hP2, hK, hWs⟩ := parseW_is w2 s n2 hn2
    have HK := Lib.hid hK
    have HP2 := Lib.hid hP2
    have hA := half_any (parseW w2 s) (n2 + 1) (n2 + 1 + 1) s 0 0 0 (.bool false) (.slice none 0 0) (.slice none 0 0) (HE2.out.keep hK (by simp)) hR hP (by omega) (by have := hE.le; omega) (by have := hE.le; omega) (by omega) (Nat.zero_le _)
    change Calls Tryd.prog 42 #[.pointer (some ⟨n2 + 1, 0, none⟩), .pointer (some ⟨n2 + 1 + 1, 0, none⟩)] (parseW w2 s) _
    have HWs := Lib.hid hWs
    have Hn2 := Lib.hid hn2
    clear hR hP hP2 hK hWs hn2
    generalize parseW w2 s = W at *
    cases hh : halfS s 0 with
    | error y =>
      rw [hh] at hA
      have HA := Lib.hid hA
      have HS2 : Hid (parseS s = .error (y.1, y.2)) := by have := HS.out; rw [hh] at this; exact this
      clear hA hh HS p0 p1 p2 p3 p4 p5 p6 p7 p8 p9 pf q0 q1 qf
      refine HA.out.mono ?_
      rintro x w4 ⟨rfl, ⟨q, hR4⟩, k4⟩
      have hKK := (HK.out.mono (cs := [n2 + 1, n2 + 1 + 1]) (fun x hx => by cases hx)).same k4
      obtain ⟨p0, p1, p2, p3, p4, p5, p6, p7, p8, p9, pf⟩ := (Pat.all (Blk.keep HB0.out hKK (by simp; omega)))
      obtain ⟨q0, q1, qf⟩ := (Sp.all (Blk.keep HB1.out hKK (by simp; omega)))
      obtain ⟨c0, c1, c2, c3, f1, f2, f3⟩ := hR4.cells
      have HBX := Lib.hid (HBW.out.trans (hKK.below (B := w.heap.size) (fun x hx => by simp at hx; omega) (by have := Hn2.out; omega)))
      clear hR4 k4 hKK
      go_wp2
      go_region
      all_goals
        go_wp2
        rw [HS2.out]
        refine bodyPost_ret (v := .tuple #[zeroPat, .agg #[.int .i64 y.1, .int .i64 y.2]]) ?_ rfl (PPost.err ?_)
        · simp [results, Tryd.results12, go_sem, zeroPat, p0, p1, p2, p3, p4, p5, p6, p7, p8, p9, q0, q1]
        · exact Below.drew (below_store12 HBX.out (Nat.le_refl _) (Nat.le_succ _) _ _ _ _ _ _ _ _ _ _ _ _)
    | ok r =>
      rw [hh] at hA
      have HA := Lib.hid hA
      have HS2 : Hid (parseS s = if isB s r.q 59 then parseS3 s r (halfS s (r.q + 1)) else if r.q < s.size then .error (260, r.q) else .ok ⟨r.pre, r.suf, false, [], [], r.d⟩) := by have := HS.out; rw [hh] at this; exact this
      clear hA hh HS p0 p1 p2 p3 p4 p5 p6 p7 p8 p9 pf q0 q1 qf
      refine HA.out.mono ?_
      rintro x w4 ⟨rfl, v1, v2, M, hR4, hP4, hO1, hO2, hM1, hM2, k4, hq4, hMw4⟩
      have hKK := (HK.out.mono (cs := [n2 + 1, n2 + 1 + 1]) (fun x hx => by cases hx)).same k4
      have hB4 := k4.size
      obtain ⟨A1, cap1, rfl, _⟩ := hO1.form
      obtain ⟨A2, cap2, rfl, _⟩ := hO2.form
      generalize hl1 : r.pre.length = m1 at *
      generalize hl2 : r.suf.length = m2 at *
      have HL1 := Lib.hid hl1
      have HL2 := Lib.hid hl2
      have HO1 := Lib.hid hO1
      have HO2 := Lib.hid hO2
      have HR4 := Lib.hid hR4
      have HP4 := Lib.hid hP4
      have HM1 := Lib.hid hM1
      have HKK := Lib.hid hKK
      have hWn : W.heap.size = n2 + 4 := HWs.out
      have hWn1 : n2 + 4 ≤ W.heap.size := by omega
      have hWn2 : W.heap.size ≤ n2 + 4 := by omega
      have HZ4 : Hid (Zp w4 (n2 + 1 + 1 + 1)) := Blk.keep HP2.out k4 (by simp <;> omega)
      clear hl1 hl2 hO1 hO2 hR4 hP4 hM1 hKK hWn k4 HA
      by_cases h59 : isB s r.q 59
      · have HS3 : Hid (parseS s = parseS3 s r (halfS s (r.q + 1))) := by have := HS2.out; rw [if_pos h59] at this; exact this
        have hq5 : r.q < s.size := h59.1
        have HT := Lib.hid (takeY w4 (n2 + 1) s r.q 0 0 59 59 rfl HR4.out (by omega) h59)
        clear h59 HS2
        go_wp2_with fail
        refine HT.out.mono ?_
        rintro x w5 ⟨rfl, hR5, k5⟩
        have HKK5 := Lib.hid (HKK.out.trans k5 (fun x hx => .inl (by simp at hx; simp [hx])))
        have HR5 := Lib.hid hR5
        have HP5 : Hid (Pat w5 (n2 + 1 + 1) (.slice A1 m1 cap1) (.slice A2 m2 cap2) (.bool false) (.slice none 0 0) (.slice none 0 0) r.d.mi r.d.mf r.d.xf r.d.g1 r.d.g2) := Blk.keep HP4.out k5 (by simp)
        have HZ5 : Hid (Zp w5 (n2 + 1 + 1 + 1)) := Blk.keep HZ4.out k5 (by simp <;> omega)
        have HO15 := Lib.hid (HO1.out.keep k5 (fun x hx hc => by have := HO1.out.lt x hx; simp at hc; omega))
        have HO25 := Lib.hid (HO2.out.keep k5 (fun x hx hc => by have := HO2.out.lt x hx; simp at hc; omega))
        have hB5 := k5.size
        have HMw := Lib.hid HO25.out.below
        have hE5 := HE2.out.keep HKK5.out (fun x hx => by have := hE.le; simp at hx; omega)
        have hA := half_any w5 (n2 + 1) (n2 + 1 + 1 + 1) s (r.q + 1) 0 0 (.bool false) (.slice none 0 0) (.slice none 0 0) hE5 HR5.out HZ5.out (by omega) (by have := hE.le; omega) (by have := hE.le; omega) (by omega) (by omega)
        clear hR5 k5 hE5 HT
        cases hh : halfS s (r.q + 1) with
        | error y =>
          rw [hh] at hA
          have HA := Lib.hid hA
          have HS4 : Hid (parseS s = .error (y.1, y.2)) := by have := HS3.out; rw [hh] at this; exact this
          clear hA hh HS3
          go_wp2_with fail
          refine HA.out.mono ?_
          rintro x w6 ⟨rfl, ⟨q, hR6⟩, k6⟩
          have hKK6 := (HKK5.out.mono (cs := [n2 + 1, n2 + 1 + 1, n2 + 1 + 1 + 1]) (fun x hx => .inl (by simp at hx; rcases hx with h | h <;> simp [h]))).trans k6 (fun x hx => .inl (by simp at hx; rcases hx with h | h <;> simp [h]))
          obtain ⟨p0, p1, p2, p3, p4, p5, p6, p7, p8, p9, pf⟩ := (Pat.all (Blk.keep HB0.out hKK6 (by simp; omega)))
          obtain ⟨q0, q1, qf⟩ := (Sp.all (Blk.keep HB1.out hKK6 (by simp; omega)))
          obtain ⟨c0, c1, c2, c3, f1, f2, f3⟩ := hR6.cells
          have HBX := Lib.hid (HBW.out.trans (hKK6.below (B := w.heap.size) (fun x hx => by simp at hx; omega) (by have := Hn2.out; omega)))
          clear hR6 k6 hKK6
          go_wp2
          go_region
          all_goals
            go_wp2
            rw [HS4.out]
            refine bodyPost_ret (v := .tuple #[zeroPat, .agg #[.int .i64 y.1, .int .i64 y.2]]) ?_ rfl (PPost.err ?_)
            · simp [results, Tryd.results12, go_sem, zeroPat, p0, p1, p2, p3, p4, p5, p6, p7, p8, p9, q0, q1]
            · exact Below.drew (below_store12 HBX.out (Nat.le_refl _) (Nat.le_succ _) _ _ _ _ _ _ _ _ _ _ _ _)
        | ok r2 =>
          rw [hh] at hA
          have HA := Lib.hid hA
          have HS4 : Hid (parseS s = if r2.q < s.size then .error (260, r2.q) else .ok ⟨r.pre, r.suf, true, r2.pre, r2.suf, r.d⟩) := by have := HS3.out; rw [hh] at this; exact this
          clear hA hh HS3
          go_wp2_with fail
          refine HA.out.mono ?_
          rintro x w6 ⟨rfl, v3, v4, M', hR6, hP6, hO3, hO4, hM3, hM4, k6, hq6, hMw6⟩
          have hKK6 := (HKK5.out.mono (cs := [n2 + 1, n2 + 1 + 1, n2 + 1 + 1 + 1]) (fun x hx => .inl (by simp at hx; rcases hx with h | h <;> simp [h]))).trans k6 (fun x hx => .inl (by simp at hx; rcases hx with h | h <;> simp [h]))
          have hB6 := k6.size
          obtain ⟨A3, cap3, rfl, _⟩ := hO3.form
          obtain ⟨A4, cap4, rfl, _⟩ := hO4.form
          generalize hl3 : r2.pre.length = m3 at *
          generalize hl4 : r2.suf.length = m4 at *
          have HL3 := Lib.hid hl3
          have HL4 := Lib.hid hl4
          have HO3 := Lib.hid hO3
          have HO4 := Lib.hid hO4
          have HM3 := Lib.hid hM3
          have HO16 := Lib.hid (HO15.out.keep k6 (fun x hx hc => by have := HO15.out.lt x hx; simp at hc; omega))
          have HO26 := Lib.hid (HO25.out.keep k6 (fun x hx hc => by have := HO25.out.lt x hx; simp at hc; omega))
          obtain ⟨p0, p1, p2, p3, p4, p5, p6, p7, p8, p9, pf⟩ := (Pat.all (Blk.keep HB0.out hKK6 (by simp; omega)))
          obtain ⟨q0, q1, qf⟩ := (Sp.all (Blk.keep HB1.out hKK6 (by simp; omega)))
          obtain ⟨c0, c1, c2, c3, f1, f2, f3⟩ := hR6.cells
          have hP5 : Pat w6 (n2 + 1 + 1) (.slice A1 m1 cap1) (.slice A2 m2 cap2) (.bool false) (.slice none 0 0) (.slice none 0 0) r.d.mi r.d.mf r.d.xf r.d.g1 r.d.g2 := Blk.keep HP5.out k6 (by simp <;> omega)
          obtain ⟨e0, e1, e2, e3, e4, e5, e6, e7, e8, e9, ef⟩ := hP5.all
          obtain ⟨g0, g1, _, _, _, _, _, _, _, _, _⟩ := hP6.all
          have HBX := Lib.hid (HBW.out.trans (hKK6.below (B := w.heap.size) (fun x hx => by simp at hx; omega) (by have := Hn2.out; omega)))
          clear hl3 hl4 hO3 hO4 hM3 hR6 k6 hKK6 hP5 hP6 HA HZ5 HR5 HP5
          by_cases hlt : r2.q < s.size
          · have HS5 : Hid (parseS s = .error (260, r2.q)) := by have := HS4.out; rw [if_pos hlt] at this; exact this
            have hlt' : (r2.q : Int) < s.size := by omega
            clear HS4
            go_wp2
            go_region
            all_goals
              go_wp2
              rw [HS5.out]
              refine bodyPost_ret (v := .tuple #[zeroPat, .agg #[.int .i64 260, .int .i64 r2.q]]) ?_ rfl (PPost.err ?_)
              · simp [results, Tryd.results12, go_sem, zeroPat, p0, p1, p2, p3, p4, p5, p6, p7, p8, p9, q0, q1]
              · exact Below.drew (below_store12 (below_store3 HBX.out (by omega) _ _ _) (Nat.le_refl _) (Nat.le_succ _) _ _ _ _ _ _ _ _ _ _ _ _)
          · have HS5 : Hid (parseS s = .ok ⟨r.pre, r.suf, true, r2.pre, r2.suf, r.d⟩) := by have := HS4.out; rw [if_neg hlt] at this; exact this
            have hlt' : ¬ (r2.q : Int) < s.size := by omega
            clear hlt HS4
            go_wp2
            rw [HS5.out]
            refine bodyPost_ret (v := .tuple #[.agg #[.slice A1 m1 cap1, .slice A2 m2 cap2, .bool true, .slice A3 m3 cap3, .slice A4 m4 cap4, .int .i64 r.d.mi, .int .i64 r.d.mf, .int .i64 r.d.xf, .int .i64 r.d.g1, .int .i64 r.d.g2], .agg #[.int .i64 0, .int .i64 0]]) ?_ rfl (PPost.ok M w5.heap.size M' ?_ ?_ ?_ ?_ HM1.out HMw.out HM3.out (by omega) (by omega) (by omega) ?_)
            · simp [results, Tryd.results12, go_sem, p0, p1, p2, p3, p4, p5, p6, p7, p8, p9, q0, q1]
            · exact OwnA.mono ((HO16.out.far3 (by omega) _ _ _).far12 (by omega) (by omega) _ _ _ _ _ _ _ _ _ _ _ _) (by omega)
            · exact (HO26.out.far3 (by omega) _ _ _).far12 (by omega) (by omega) _ _ _ _ _ _ _ _ _ _ _ _
            · exact (HO3.out.far3 (by omega) _ _ _).far12 (by omega) (by omega) _ _ _ _ _ _ _ _ _ _ _ _
            · exact (HO4.out.far3 (by omega) _ _ _).far12 (by omega) (by omega) _ _ _ _ _ _ _ _ _ _ _ _
            · exact below_store12 (below_store3 HBX.out (by omega) _ _ _) (Nat.le_refl _) (Nat.le_succ _) _ _ _ _ _ _ _ _ _ _ _ _
      · have HS3 : Hid (parseS s = (if r.q < s.size then .error (260, r.q) else .ok ⟨r.pre, r.suf, false, [], [], r.d⟩)) := by have := HS2.out; rw [if_neg h59] at this; exact this
        have HT := Lib.hid (takeN w4 (n2 + 1) s r.q 0 0 59 59 rfl HR4.out (by omega) h59)
        clear h59 HS2
        go_wp2_with fail
        refine HT.out.mono ?_
        rintro x w5 ⟨rfl, hR5, k5⟩
        have hKK5 := HKK.out.nil k5
        obtain ⟨p0, p1, p2, p3, p4, p5, p6, p7, p8, p9, pf⟩ := (Pat.all (Blk.keep HB0.out hKK5 (by simp; omega)))
        obtain ⟨q0, q1, qf⟩ := (Sp.all (Blk.keep HB1.out hKK5 (by simp; omega)))
        obtain ⟨c0, c1, c2, c3, f1, f2, f3⟩ := hR5.cells
        have HBX := Lib.hid (HBW.out.trans (hKK5.below (B := w.heap.size) (fun x hx => by simp at hx; omega) (by have := Hn2.out; omega)))
        have hP5 : Pat w5 (n2 + 1 + 1) (.slice A1 m1 cap1) (.slice A2 m2 cap2) (.bool false) (.slice none 0 0) (.slice none 0 0) r.d.mi r.d.mf r.d.xf r.d.g1 r.d.g2 := Blk.keep HP4.out k5 (by simp)
        obtain ⟨e0, e1, e2, e3, e4, e5, e6, e7, e8, e9, ef⟩ := hP5.all
        have HO15 := Lib.hid (HO1.out.keep k5 (by simp))
        have HO25 := Lib.hid (HO2.out.keep k5 (by simp))
        have hB5 := k5.size
        have HMw := Lib.hid HO25.out.below
        clear hR5 k5 hKK5 hP5 HT
        by_cases hlt : r.q < s.size
        · have HS2 : Hid (parseS s = .error (260, r.q)) := by have := HS3.out; rw [if_pos hlt] at this; exact this
          clear HS3
          have hlt' : (r.q : Int) < s.size := by omega
          go_wp2
          go_region
          all_goals
            go_wp2
            rw [HS2.out]
            refine bodyPost_ret (v := .tuple #[zeroPat, .agg #[.int .i64 260, .int .i64 r.q]]) ?_ rfl (PPost.err ?_)
            · simp [results, Tryd.results12, go_sem, zeroPat, p0, p1, p2, p3, p4, p5, p6, p7, p8, p9, q0, q1]
            · exact Below.drew (below_store12 HBX.out (Nat.le_refl _) (Nat.le_succ _) _ _ _ _ _ _ _ _ _ _ _ _)
        · have HS4 : Hid (parseS s = .ok ⟨r.pre, r.suf, false, [], [], r.d⟩) := by have := HS3.out; rw [if_neg hlt] at this; exact this
          have hlt' : ¬ (r.q : Int) < s.size := by omega
          clear hlt HS3
          go_wp2
          rw [HS4.out]
          refine bodyPost_ret (v := .tuple #[.agg #[.slice A1 m1 cap1, .slice A2 m2 cap2, .bool false, .slice none 0 0, .slice none 0 0, .int .i64 r.d.mi, .int .i64 r.d.mf, .int .i64 r.d.xf, .int .i64 r.d.g1, .int .i64 r.d.g2], .agg #[.int .i64 0, .int .i64 0]]) ?_ rfl (PPost.ok M (M + w5.heap.size) (M + w5.heap.size) ?_ ?_ (OwnA.nil _ _) (OwnA.nil _ _) HM1.out (fun x hx => by have := HMw.out x hx; omega) (fun x hx => by simp [Value.ownBlock] at hx) ?_ (by omega) (Nat.le_refl _) ?_)
          · simp [results, Tryd.results12, go_sem, p0, p1, p2, p3, p4, p5, p6, p7, p8, p9, q0, q1]
          · exact OwnA.mono ((HO15.out.far12 (by omega) (by omega) _ _ _ _ _ _ _ _ _ _ _ _)) (by omega)
          · exact HO25.out.far12 (by omega) (by omega) _ _ _ _ _ _ _ _ _ _ _ _
          · omega
          · exact below_store12 HBX.out (Nat.le_refl _) (Nat.le_succ _) _ _ _ _ _ _ _ _ _ _ _ _
  · have HS : Hid (parseS s = .error (6, brk s)) := by unfold Hid parseS; rw [if_neg h1, if_pos h2]
    have HC : ∀ W, Hid (Calls Tryd.prog 41 #[.string s] W fun e w' => e = .returned (.agg #[.int .i64 6, .int .i64 (brk s)]) ∧ Below W.heap.size W w') := fun W => by
      have := (hC W).out
      unfold spotErr spotAt at this
      rw [if_neg h2, if_neg h2] at this
      exact this
    have H2 := Lib.hid h2
    clear h2
    go_enter Tryd.func12, Tryd.ntmps12
    go_wp2_with fail
    refine (HC _).out.mono ?_
    rintro x w2 ⟨rfl, hb⟩
    have b0 : Pat w2 w.heap.size (.slice none 0 0) (.slice none 0 0) (.bool false) (.slice none 0 0) (.slice none 0 0) 0 0 0 0 0 := Blk.below (Blk.alloc (Blk.new w 25 _) _) hb (by simp; omega)
    have b1 : Sp w2 (w.heap.size + 1) 0 0 := Blk.below (Blk.new' (w.alloc _) 28 _ (w.heap.size + 1) (by simp)) hb (by simp)
    have hbw := (((Below.refl w.heap.size w).alloc (Nat.le_refl _) (.cells #[.slice none 0 0, .slice none 0 0, .bool false, .slice none 0 0, .slice none 0 0, .int .i64 0, .int .i64 0, .int .i64 0, .int .i64 0, .int .i64 0] 25)).alloc (by simp) (.cells #[.int .i64 0, .int .i64 0] 28)).trans (hb.mono (by simp; omega))
    have hz0 : w.heap.size < w2.heap.size := by have := hb.size; simp at this; omega
    have hz1 : w.heap.size + 1 < w2.heap.size := by have := hb.size; simp at this; omega
    have HBW := Lib.hid hbw
    have HB0 := Lib.hid b0
    have HB1 := Lib.hid b1
    obtain ⟨p0, p1, p2, p3, p4, p5, p6, p7, p8, p9, pf⟩ := b0.all
    obtain ⟨q0, q1, qf⟩ := b1.all
    clear hb b0 b1 hbw hC
    go_wp2
    go_region
    go_wp2
    rw [HS.out]
    refine bodyPost_ret (v := .tuple #[zeroPat, .agg #[.int .i64 6, .int .i64 (brk s)]]) ?_ rfl (PPost.err ?_)
    · simp [results, Tryd.results12, go_sem, zeroPat, *]
    · exact Below.drew (Below.alloc (below_store12 HBW.out (Nat.le_refl _) (Nat.le_succ _) _ _ _ _ _ _ _ _ _ _ _ _) (by simp; omega) _)
end Go.Proofs.YtkkglaglnfebjaaDoor
