/- Walks: the law's copied. -/
import Derived.Test.YtkkglaglnfebjaaDoorWCut
import Derived.Test.YtkkglaglnfebjaaDoorRL
import Derived.Deep.RegionLaw
import Derived.Laws.MakeOwn
import Derived.Deep.RegionHeld3
import Derived.Deep.DeepCutAuto
import Derived.Deep.LoopGhost
namespace Go.Proofs.YtkkglaglnfebjaaDoor
open Go.RowKit Go.IntWalk

theorem affC_one_cell (l : List Aff) : ∀ u ∈ affC l, u.oneCell' = true := by
  intro u hu
  simp only [affC, List.mem_flatMap] at hu
  obtain ⟨a, _, hu⟩ := hu
  simp only [Aff.cells, List.mem_cons, List.mem_nil_iff, or_false] at hu
  rcases hu with rfl | rfl | rfl <;> rfl
theorem addr_add (b o j : Nat) : (⟨b, o, none⟩ : Addr).add j = ⟨b, o + j, none⟩ := by unfold Addr.add; split <;> simp_all
/-- append of pieces that read to a slice of the call's own that is not nil. -/
theorem wp_append_affs {o : Oper} {a : Act} {w : World} {K : Act → World → Prop} {Q : Exit → Act → World → Prop} (s x : Operand)
    (ho : o.op = .call { callee := .builtin .append, args := #[s, x], argTypes := #[23, 23] })
    {B : Nat} {v : Value} {l : List Aff} (hs : a.eval s = v) (hown : OwnA w B v l) (hvn : v ≠ .slice none 0 0) {vx : Value} {m : List Aff} (hx : a.eval x = vx) (hrd : RdA w vx m) (hnil : ∀ n c, vx = .slice none n c → n = 0 ∧ c = 0)
    (hlen : l.length + m.length ≤ 2000000000) (hB : B ≤ w.heap.size)
    (h : ∀ v' w', OwnA w' B v' (l ++ m) → v' ≠ .slice none 0 0 → Keep v.ownBlock.toList w w' → K (a.put o.dst v') w') : o.wp Tryd.prog a w K Q := by
  obtain ⟨i0, hi, hz0, hz1, hz2⟩ := info_parts infoAffix
  obtain ⟨A, cap, rfl, h1, h2, h3⟩ := hrd
  cases A with
  | none =>
    obtain ⟨e1, rfl⟩ := hnil _ _ rfl
    have em : m = [] := List.eq_nil_of_length_eq_zero e1
    subst em
    have hr := run_append_owned_none (P := Tryd.prog) (w := w) B 23 o.type 42 i0 _ Tryd.underlying23 hi v l.length (affC l) hown
    unfold Oper.wp execOp
    simp only [ho, resolve, invoke, builtin, Sem.run_bind, Sem.run_pure, Result.andThen_ok, List.map_toArray, List.map_cons, List.map_nil, hs, hx, List.length_nil, hr]
    exact h v w (by rw [List.append_nil]; exact hown) hvn (Keep.refl _ _)
  | some ad =>
    have hcells : ∀ j u, (affC m)[j]? = some u → w.cell? (ad.add j) = some u := by
      intro j u hu
      have hne : m ≠ [] := by rintro rfl; simp [affC] at hu
      obtain ⟨b, o', he, _, hc⟩ := h3 hne
      obtain rfl := Option.some.inj he
      rw [addr_add]
      exact hc j u hu
    refine wp_append_own w s x 23 ho B 42 i0 _ 3 32 Tryd.underlying23 hi hz0 hz1 hz2 rfl (by decide) v l.length (affC l) hs hown ad m.length cap (affC m) hx (affC_length m) hcells (affC_one_cell m) (by unfold maxLen; omega) (by omega) hB ?_
    intro v' w' g1 g2 g3
    refine h v' w' ?_ (fun hc => hvn (g3.1 hc).1) ((Keep.refl _ w).grown g2 fun k hk => .inl (by simpa using hk))
    unfold OwnA
    rw [affC_append, List.length_append]
    exact g1
theorem OwnA.some_form {w : World} {B : Nat} {v : Value} {l : List Aff} (h : OwnA w B v l) (hv : v ≠ .slice none 0 0) : ∃ g cap, v = .slice (some ⟨g, 0, none⟩) l.length cap ∧ l.length ≤ cap ∧ cap ≤ maxLen ∧ B ≤ g := by
  rcases h.2 with ⟨h1, _⟩ | ⟨g, cap, cur, h1, hB, _, hn, hc, _⟩
  · exact absurd h1 hv
  · exact ⟨g, cap, h1, hn, hc, hB⟩
/-- append to a slice that is not nil; its result's form. -/
theorem wp_append_some {o : Oper} {a : Act} {w : World} {K : Act → World → Prop} {Q : Exit → Act → World → Prop} (s x : Operand)
    (ho : o.op = .call { callee := .builtin .append, args := #[s, x], argTypes := #[23, 23] })
    {w0 : World} {B : Nat} {v : Value} {l : List Aff} (hs : a.eval s = v) (hown : OwnA w B v l) (hvn : v ≠ .slice none 0 0) {vx : Value} {m : List Aff} (hx : a.eval x = vx) (hrd : RdA w vx m) (hnil : ∀ n c, vx = .slice none n c → n = 0 ∧ c = 0)
    {r : List Aff} (hr : l ++ m = r) (hlen : l.length + m.length ≤ 2000000000) (hk0 : Keep [] w0 w) (hB0 : w0.heap.size ≤ B) (hB : B ≤ w.heap.size)
    (h : ∀ g cap w', OwnA w' B (.slice (some ⟨g, 0, none⟩) r.length cap) r → r.length ≤ cap → cap ≤ maxLen → B ≤ g → Keep v.ownBlock.toList w w' → Keep [] w0 w' → K (a.put o.dst (.slice (some ⟨g, 0, none⟩) r.length cap)) w') : Oper.wp Tryd.prog o a w K Q := by
  subst hr
  refine wp_append_affs s x ho hs hown hvn hx hrd hnil hlen hB fun v' w' h1 h2 h3 => ?_
  obtain ⟨g, cap, rfl, h4, h5, h6⟩ := h1.some_form h2
  exact h g cap w' h1 h4 h5 h6 h3 (hk0.trans h3 fun x hx => .inr (Nat.le_trans hB0 (hown.lt x hx)))
/-- One piece, made just now, reads. -/
def nine : Aff := ⟨9, ⟨#[]⟩, 0⟩
theorem new_one (W : World) : RdA (W.alloc (.cells #[.int .i64 9, .string ⟨#[]⟩, .int .i64 0] 42)) (.slice (some ⟨W.heap.size, 0, none⟩) 1 1) [nine] :=
  ⟨_, 1, rfl, Nat.le_refl _, by simp [maxLen], fun _ => ⟨W.heap.size, 0, rfl, by simp, fun j u hu => by
    rw [Nat.zero_add]
    exact (Blk.new W 42 _).cell_eq (by simpa [affC, nine, Aff.cells] using hu)⟩⟩
theorem RdA.keep_ge {w w' : World} {g : Nat} {l : List Aff} {n c : Nat} {bs : List Nat} (h : RdA w (.slice (some ⟨g, 0, none⟩) n c) l) (hk : Keep bs w w') (hb : g ∉ bs) : RdA w' (.slice (some ⟨g, 0, none⟩) n c) l :=
  h.keep hk (fun b o n c he => by injection he with e1 _ _; obtain rfl := (Addr.mk.inj (Option.some.inj e1)).1; exact hb)
theorem run_make_affs (n : Nat) (hn : n ≤ 1000000000) (w : World) : (Instr.makeSlice 23 (.int .i64 0) (.int .i64 ((n : Int) + 2))).run Tryd.prog w =
    .ok (.slice (some ⟨w.heap.size, 0, none⟩) 0 (n + 2)) (w.alloc (.cells (madeCells #[.int .i64 0, .string ⟨#[]⟩, .int .i64 0] ((n + 2) * 3)) 42)) := by
  obtain ⟨i0, hi, hz0, hz1, hz2⟩ := info_parts infoAffix
  have h := run_make (P := Tryd.prog) w 23 42 i0 _ Tryd.underlying23 hi hz0 .i64 .i64 0 ((n : Int) + 2) (Int.le_refl _) (by omega) (by rw [hz2]; omega) (by omega)
  rw [hz1, show ((n : Int) + 2).toNat = n + 2 by omega] at h
  exact h
theorem made_own (w : World) (n : Nat) (hn : n ≤ 1000000000) : OwnA (w.alloc (.cells (madeCells #[.int .i64 0, .string ⟨#[]⟩, .int .i64 0] ((n + 2) * 3)) 42)) w.heap.size (.slice (some ⟨w.heap.size, 0, none⟩) 0 (n + 2)) [] :=
  ⟨rfl, .inr ⟨w.heap.size, n + 2, _, rfl, Nat.le_refl _, heap_alloc_new w _, Nat.zero_le _, by unfold maxLen; omega, size_madeCells _ _, by simp [affC]⟩⟩

theorem made_keep {W W' : World} {n b B : Nat} (hn : n ≤ 1000000000) (hk : Keep [] (W.alloc (.cells (madeCells #[.int .i64 0, .string ⟨#[]⟩, .int .i64 0] ((n + 2) * 3)) 42)) W') (hb : W.heap.size = b) (hB : B ≤ b) : OwnA W' B (.slice (some ⟨b, 0, none⟩) 0 (n + 2)) [] := by
  subst hb
  exact ((made_own W n hn).mono hB).keep hk (by simp)
theorem nine_keep {W W' : World} {b : Nat} {bs : List Nat} (hk : Keep bs (W.alloc (.cells #[.int .i64 9, .string ⟨#[]⟩, .int .i64 0] 42)) W') (hb : W.heap.size = b) (hn : b ∉ bs) : RdA W' (.slice (some ⟨b, 0, none⟩) 1 1) [nine] := by
  subst hb
  exact (new_one W).keep_ge hk hn

/-- A slice of pieces that reads, away from the blocks g and g + 1; a nil one has no capacity. -/
structure Away (w : World) (g : Nat) (u : Value) (l : List Aff) : Prop where
  rd : RdA w u l
  far : ∀ b o n c, u = .slice (some ⟨b, o, none⟩) n c → l ≠ [] → b < g ∨ g + 1 < b
  nil : ∀ n c, u = .slice none n c → n = 0 ∧ c = 0
theorem Away.keep {w w' : World} {g : Nat} {u : Value} {l : List Aff} {bs : List Nat} (h : Away w g u l) (hk : Keep bs w w') (hb : ∀ x ∈ bs, x = g ∨ x = g + 1 ∨ w.heap.size ≤ x) : Away w' g u l := by
  refine ⟨?_, h.far, h.nil⟩
  obtain ⟨A, cap, rfl, h1, h2, h3⟩ := h.rd
  refine ⟨A, cap, rfl, h1, h2, fun hl => ?_⟩
  obtain ⟨b, o, rfl, hlt, hc⟩ := h3 hl
  have hfar := h.far b o _ _ rfl hl
  exact ⟨b, o, rfl, Nat.lt_of_lt_of_le hlt hk.size, fun j u hu => (hk.cell (p := ⟨b, o + j, none⟩) hlt (fun hx => by have := hb b hx; omega)).trans (hc j u hu)⟩
theorem Away.start {w : World} {u : Value} {l : List Aff} (h : RdA w u l) (hn : ∀ n c, u = .slice none n c → n = 0 ∧ c = 0) : Away w w.heap.size u l :=
  ⟨h, fun b o n c he hl => by
    obtain ⟨A, cap, rfl, _, _, h3⟩ := h
    obtain ⟨b', o', rfl, hlt, _⟩ := h3 hl
    injection he with e1 _ _
    obtain ⟨rfl, _⟩ := Addr.mk.inj (Option.some.inj e1)
    exact .inl hlt, hn⟩
/-- Nil slices have no capacity. -/
def NilOK (u : Value) : Prop := ∀ n c, u = .slice none n c → n = 0 ∧ c = 0
def NilP (u1 u2 u3 u4 : Value) : Prop := NilOK u1 ∧ NilOK u2 ∧ NilOK u3 ∧ NilOK u4
/-- What the copied pattern's block holds. -/
def CsOK (w : World) (g : Nat) (p : PatD) (cs : Array Value) : Prop :=
  ∃ u1 u2 u3 u4, cs = #[u1, u2, .bool p.neg, u3, u4, .int .i64 p.mi, .int .i64 p.mf, .int .i64 p.xf, .int .i64 p.g, .int .i64 p.g2] ∧ Away w g u1 p.pre ∧ Away w g u2 p.suf ∧ Away w g u3 p.npre ∧ Away w g u4 p.nsuf
theorem CsOK.keep {w w' : World} {g : Nat} {p : PatD} {cs : Array Value} {bs : List Nat} (h : CsOK w g p cs) (hk : Keep bs w w') (hb : ∀ x ∈ bs, x = g ∨ x = g + 1 ∨ w.heap.size ≤ x) : CsOK w' g p cs := by
  obtain ⟨u1, u2, u3, u4, rfl, h1, h2, h3, h4⟩ := h
  exact ⟨u1, u2, u3, u4, rfl, h1.keep hk hb, h2.keep hk hb, h3.keep hk hb, h4.keep hk hb⟩
/-- The field that a round turns. -/
theorem CsOK.at_ {w : World} {g : Nat} {p : PatD} {cs : Array Value} (h : CsOK w g p cs) (m : Nat) (hm : m < 4) :
    ∃ off u l, [0, 1, 3, 4][m]? = some off ∧ off < 10 ∧ cs[off]? = some u ∧ Away w g u l ∧ (l = p.pre ∨ l = p.suf ∨ l = p.npre ∨ l = p.nsuf) ∧ ∀ w' v, (∀ u l, Away w g u l → Away w' g u l) → Away w' g v l → CsOK w' g p (cs.setIfInBounds off v) := by
  obtain ⟨u1, u2, u3, u4, rfl, h1, h2, h3, h4⟩ := h
  match m, hm with
  | 0, _ => exact ⟨0, u1, p.pre, rfl, by omega, rfl, h1, .inl rfl, fun w' v hk hv => ⟨v, u2, u3, u4, rfl, hv, hk _ _ h2, hk _ _ h3, hk _ _ h4⟩⟩
  | 1, _ => exact ⟨1, u2, p.suf, rfl, by omega, rfl, h2, .inr (.inl rfl), fun w' v hk hv => ⟨u1, v, u3, u4, rfl, hk _ _ h1, hv, hk _ _ h3, hk _ _ h4⟩⟩
  | 2, _ => exact ⟨3, u3, p.npre, rfl, by omega, rfl, h3, .inr (.inr (.inl rfl)), fun w' v hk hv => ⟨u1, u2, v, u4, rfl, hk _ _ h1, hk _ _ h2, hv, hk _ _ h4⟩⟩
  | 3, _ => exact ⟨4, u4, p.nsuf, rfl, by omega, rfl, h4, .inr (.inr (.inr rfl)), fun w' v hk hv => ⟨u1, u2, u3, v, rfl, hk _ _ h1, hk _ _ h2, hk _ _ h3, hv⟩⟩

/-- The round's store. -/
theorem copied_round {w wr w2 : World} {g off g2 n k2 : Nat} {p : PatD} {cs ps : Array Value} {l : List Aff} (_hg : w.heap.size = g) (hB : Blk wr g 25 cs) (hZ : Zp wr (g + 1)) (hP : Blk wr (g + 1 + 1) 81 ps) (hK : Keep [] w wr)
    (hput : ∀ w' v, (∀ u l, Away wr g u l → Away w' g u l) → Away w' g v l → CsOK w' g p (cs.setIfInBounds off v)) (hO : OwnA w2 wr.heap.size (.slice (some ⟨g2, 0, none⟩) n k2) (l ++ [nine])) (hG : wr.heap.size ≤ g2) (hK2 : Keep [] wr w2) :
    ∃ cs', Blk (w2.setCell ⟨g, off, none⟩ (.slice (some ⟨g2, 0, none⟩) l.length k2)) g 25 cs' ∧ CsOK (w2.setCell ⟨g, off, none⟩ (.slice (some ⟨g2, 0, none⟩) l.length k2)) g p cs' ∧
      Zp (w2.setCell ⟨g, off, none⟩ (.slice (some ⟨g2, 0, none⟩) l.length k2)) (g + 1) ∧ Blk (w2.setCell ⟨g, off, none⟩ (.slice (some ⟨g2, 0, none⟩) l.length k2)) (g + 1 + 1) 81 ps ∧
      Keep [] w (w2.setCell ⟨g, off, none⟩ (.slice (some ⟨g2, 0, none⟩) l.length k2)) := by
  have h2 := hP.lt
  have hst : Keep [g] w2 (w2.setCell ⟨g, off, none⟩ (.slice (some ⟨g2, 0, none⟩) l.length k2)) := (Keep.refl [g] w2).setCell (.inl (by simp)) _
  have hg3 : Keep [g] wr (w2.setCell ⟨g, off, none⟩ (.slice (some ⟨g2, 0, none⟩) l.length k2)) := (hK2.mono (by simp)).same hst
  refine ⟨_, Blk.set_ (hB.keep hK2 (by simp)) off _, hput _ _ (fun u l h => h.keep hg3 (fun x hx => .inl (by simpa using hx))) ⟨?_, ?_, ?_⟩, Blk.far (Blk.keep hZ hK2 (by simp)) (by simp) _, Blk.far (hP.keep hK2 (by simp)) (by simp; omega) _, ?_⟩
  · have h3 := hO.reads
    have h4 := h3.len.1
    rw [List.length_append] at h4
    have h5 := h3.take l.length (by simp at h4; omega)
    rw [List.take_left] at h5
    exact h5.keep hst (fun b o n c he => by
      injection he with e1 _ _
      obtain ⟨rfl, _⟩ := Addr.mk.inj (Option.some.inj e1)
      simp; omega)
  · intro b o n c he _
    injection he with e1 _ _
    obtain ⟨rfl, _⟩ := Addr.mk.inj (Option.some.inj e1)
    omega
  · intro n c he
    injection he with e1 _ _
    cases e1
  · exact (hK.nil hK2).setCell (.inr (by simp; omega)) _

theorem copied_end {w wr w' : World} {g : Nat} {u1 u2 u3 u4 : Value} {p : PatD} (hw : w.heap.size ≤ g + 1) (h : Away wr g u1 p.pre ∧ Away wr g u2 p.suf ∧ Away wr g u3 p.npre ∧ Away wr g u4 p.nsuf) (hK : Keep [] w wr) (hk : Keep [g + 1] wr w') :
    RdP w' u1 u2 u3 u4 p ∧ NilP u1 u2 u3 u4 ∧ Keep [] w w' := by
  obtain ⟨a1, a2, a3, a4⟩ := h
  have b1 := a1.keep hk (by simp)
  have b2 := a2.keep hk (by simp)
  have b3 := a3.keep hk (by simp)
  have b4 := a4.keep hk (by simp)
  exact ⟨⟨b1.rd, b2.rd, b3.rd, b4.rd⟩, ⟨b1.nil, b2.nil, b3.nil, b4.nil⟩, hK.trans hk (fun x hx => .inr (by simp at hx; omega))⟩
set_option maxRecDepth 100000 in
set_option maxHeartbeats 8000000 in
theorem copied_any (w : World) (v1 v2 v3 v4 : Value) (p : PatD) (hp : RdP w v1 v2 v3 v4 p) (hn : NilP v1 v2 v3 v4) (hsz : PatSz p) :
    Calls Tryd.prog 16 #[patV v1 v2 v3 v4 p] w fun e w' => ∃ u1 u2 u3 u4, e = .returned (patV u1 u2 u3 u4 p) ∧ RdP w' u1 u2 u3 u4 p ∧ NilP u1 u2 u3 u4 ∧ Keep [] w w' := by
  have HSz := Lib.hid hsz.len
  have HC0 : Hid (CsOK w w.heap.size p #[v1, v2, .bool p.neg, v3, v4, .int .i64 p.mi, .int .i64 p.mf, .int .i64 p.xf, .int .i64 p.g, .int .i64 p.g2]) := ⟨v1, v2, v3, v4, rfl, Away.start hp.pre hn.1, Away.start hp.suf hn.2.1, Away.start hp.npre hn.2.2.1, Away.start hp.nsuf hn.2.2.2⟩
  clear hp hn hsz
  simp only [patV]
  go_enter Tryd.func16, Tryd.ntmps16
  go_wp2
  have HZ0 : Hid (Zp (((w.alloc (.cells #[v1, v2, .bool p.neg, v3, v4, .int .i64 p.mi, .int .i64 p.mf, .int .i64 p.xf, .int .i64 p.g, .int .i64 p.g2] 25)).alloc (.cells #[.slice none 0 0, .slice none 0 0, .bool false, .slice none 0 0, .slice none 0 0, .int .i64 0, .int .i64 0, .int .i64 0, .int .i64 0, .int .i64 0] 25)).alloc (.cells #[.pointer (some ⟨w.heap.size, 0, none⟩), .pointer (some ⟨w.heap.size, 1, none⟩), .pointer (some ⟨w.heap.size, 3, none⟩), .pointer (some ⟨w.heap.size, 4, none⟩)] 81)) (w.heap.size + 1)) := Blk.alloc (Blk.new' _ _ _ _ (by simp)) _
  go_loopg [11] 4 (fun k i wx => ∃ (m : Nat) (cs : Array Value), m + k = 4 ∧ i = .int .i64 m ∧ Blk wx w.heap.size 25 cs ∧ CsOK wx w.heap.size p cs ∧ Zp wx (w.heap.size + 1) ∧
    Blk wx (w.heap.size + 1 + 1) 81 #[.pointer (some ⟨w.heap.size, 0, none⟩), .pointer (some ⟨w.heap.size, 1, none⟩), .pointer (some ⟨w.heap.size, 3, none⟩), .pointer (some ⟨w.heap.size, 4, none⟩)] ∧ Keep [] w wx)
  case atStart => exact ⟨0, _, rfl, rfl, Blk.alloc (Blk.alloc (Blk.new _ _ _) _) _, HC0.out.keep (bs := []) (((((Keep.refl [] w).alloc _).alloc _).alloc _)) (fun x hx => by cases hx), HZ0.out, Blk.new' _ _ _ _ (by simp), ((((Keep.refl [] w).alloc _).alloc _).alloc _)⟩
  case round =>
    obtain ⟨m, cs, hm, rfl, hB, hC, hZ, hP, hK⟩ := hrel
    have Hm := Lib.hid hm
    have HB := Lib.hid hB
    have HC := Lib.hid hC
    have HZ := Lib.hid hZ
    have HP := Lib.hid hP
    have HK := Lib.hid hK
    have hm4 : m ≤ 4 := by omega
    have hgl := hB.lt
    by_cases hlt : m < 4
    · obtain ⟨off, u, l, ho, hoff, hu, haw, hmem, hput⟩ := hC.at_ m hlt
      have HPut := Lib.hid hput
      have HAw := Lib.hid haw
      have c0 : wr.cell? ⟨w.heap.size + 1 + 1, m, none⟩ = some (.pointer (some ⟨w.heap.size, off, none⟩)) := by
        rw [hP.cell m]
        match m, hlt with
        | 0, _ => simp at ho; subst ho; rfl
        | 1, _ => simp at ho; subst ho; rfl
        | 2, _ => simp at ho; subst ho; rfl
        | 3, _ => simp at ho; subst ho; rfl
      have c1 : wr.cell? ⟨w.heap.size, off, none⟩ = some u := by rw [hB.cell off]; exact hu
      have f1 : wr.frozen? ⟨w.heap.size, off, none⟩ = false := hB.frozen off
      have hll : l.length ≤ 1000000000 := by have := HSz.out; rcases hmem with rfl | rfl | rfl | rfl <;> omega
      obtain ⟨A, cap, rfl, hn1, hn2, hn3⟩ := haw.rd
      unfold maxLen at hn2
      clear hB hC hZ hP hK hm ho hu haw hmem hput hn3 HC0 HSz HZ0
      have hwrap : IntKind.i64.wrap ((l.length : Int) + 2) = (l.length : Int) + 2 := IntWalk.i64_in _ (by omega)
      have hmk := run_make_affs l.length hll
      have HKr := Lib.hid (Keep.refl [] wr)
      have KS : ∀ W, Keep [] wr W → W.cell? ⟨w.heap.size, off, none⟩ = some (.slice A l.length cap) := fun W hk => (hk.cell (p := ⟨w.heap.size, off, none⟩) hgl (by simp)).trans c1
      go_upto_region 4 with fail
      refine wp_region_U (fun W => W.cell? ⟨w.heap.size, off, none⟩ = some (.slice A l.length cap)) 20 (by kernel_rfl) ?_
      have s0 : Hid (wr.drew.cell? ⟨w.heap.size, off, none⟩ = some (.slice A l.length cap)) := c1
      refine anyU_take (i := 0) (v := ?v1) [19] rfl (by kernel_rfl) (by kernel_rfl) (by kernel_rfl) (fun _ _ _ h => h) (by kernel_rfl) (by kernel_rfl) s0.out (Or.inl ⟨by rfl, ?hy1⟩) ?rest1
      case hy1 => (intro W hW; go_simp <;> with_reducible rfl)
      simp only [Act.put, List.getElem_toArray, List.getElem_cons_zero, List.setIfInBounds_toArray, List.set_cons_zero, List.set_cons_succ]
      refine anyU_take (i := 1) (v := ?v2) [2, 3, 4, 5, 6, 10, 13, 18] rfl (by kernel_rfl) (by kernel_rfl) (by kernel_rfl) (fun _ _ _ h => h) (by kernel_rfl) (by kernel_rfl) s0.out (Or.inl ⟨by rfl, ?hy2⟩) ?rest2
      case hy2 => (intro W hW; go_simp <;> with_reducible rfl)
      simp only [Act.put, List.getElem_toArray, List.getElem_cons_succ, List.getElem_cons_zero, List.setIfInBounds_toArray, List.set_cons_zero, List.set_cons_succ]
      refine anyU_take (i := 2) (v := ?v3) [3, 4, 5, 6, 10, 13, 18] rfl (by kernel_rfl) (by kernel_rfl) (by kernel_rfl) (fun _ _ _ h => h) (by kernel_rfl) (by kernel_rfl) s0.out (Or.inl ⟨by rfl, ?hy3⟩) ?rest3
      case hy3 => (intro W hW; go_simp <;> with_reducible rfl)
      simp only [Act.put, List.getElem_toArray, List.getElem_cons_succ, List.getElem_cons_zero, List.setIfInBounds_toArray, List.set_cons_zero, List.set_cons_succ]
      refine anyU_take (i := 3) (v := ?v4) [4, 5, 6, 10, 13, 18] rfl (by kernel_rfl) (by kernel_rfl) (by kernel_rfl) (fun _ _ _ h => h) (by kernel_rfl) (by kernel_rfl) s0.out (Or.inl ⟨by rfl, ?hy4⟩) ?rest4
      case hy4 => (intro W hW; go_simp <;> with_reducible rfl)
      simp only [Act.put, List.getElem_toArray, List.getElem_cons_succ, List.getElem_cons_zero, List.setIfInBounds_toArray, List.set_cons_zero, List.set_cons_succ]
      refine anyU_take (i := 4) (v := ?v5) [5, 6, 10, 13, 18] rfl (by kernel_rfl) (by kernel_rfl) (by kernel_rfl) (fun _ _ _ h => h) (by kernel_rfl) (by kernel_rfl) s0.out (Or.inl ⟨by rfl, ?hy5⟩) ?rest5
      case hy5 => (intro W hW; go_simp <;> with_reducible rfl)
      simp only [Act.put, List.getElem_toArray, List.getElem_cons_succ, List.getElem_cons_zero, List.setIfInBounds_toArray, List.set_cons_zero, List.set_cons_succ]
      refine anyU_take (i := 5) (v := ?v6) [6, 10, 13, 18] rfl (by kernel_rfl) (by kernel_rfl) (by kernel_rfl) (fun _ _ _ h => h) (by kernel_rfl) (by kernel_rfl) s0.out (Or.inl ⟨by rfl, ?hy6⟩) ?rest6
      case hy6 => (intro W hW; go_simp <;> with_reducible rfl)
      simp only [Act.put, List.getElem_toArray, List.getElem_cons_succ, List.getElem_cons_zero, List.setIfInBounds_toArray, List.set_cons_zero, List.set_cons_succ]
      refine anyU_take (i := 7) (v := ?v7) [8, 9, 10, 13, 18] rfl (by kernel_rfl) (by kernel_rfl) (by kernel_rfl) (fun _ _ _ h => h) (by kernel_rfl) (by kernel_rfl) s0.out (Or.inl ⟨by rfl, ?hy7⟩) ?rest7
      case hy7 => (intro W hW; go_simp <;> with_reducible rfl)
      simp only [Act.put, List.getElem_toArray, List.getElem_cons_succ, List.getElem_cons_zero, List.setIfInBounds_toArray, List.set_cons_zero, List.set_cons_succ]
      refine anyU_take (i := 8) (v := ?v8) [9, 10, 13, 18] rfl (by kernel_rfl) (by kernel_rfl) (by kernel_rfl) (fun _ _ _ h => h) (by kernel_rfl) (by kernel_rfl) s0.out (Or.inl ⟨by rfl, ?hy8⟩) ?rest8
      case hy8 => (intro W hW; go_simp <;> with_reducible rfl)
      simp only [Act.put, List.getElem_toArray, List.getElem_cons_succ, List.getElem_cons_zero, List.setIfInBounds_toArray, List.set_cons_zero, List.set_cons_succ]
      refine anyU_take (i := 9) (v := ?v9) [10, 13, 18] rfl (by kernel_rfl) (by kernel_rfl) (by kernel_rfl) (fun _ _ _ h => h) (by kernel_rfl) (by kernel_rfl) s0.out (Or.inl ⟨by rfl, ?hy9⟩) ?rest9
      case hy9 => (intro W hW; go_simp <;> with_reducible rfl)
      simp only [Act.put, List.getElem_toArray, List.getElem_cons_succ, List.getElem_cons_zero, List.setIfInBounds_toArray, List.set_cons_zero, List.set_cons_succ]
      refine anyU_take (i := 11) (v := ?v10) [12, 13, 18] rfl (by kernel_rfl) (by kernel_rfl) (by kernel_rfl) (fun _ _ _ h => h) (by kernel_rfl) (by kernel_rfl) s0.out (Or.inl ⟨by rfl, ?hy10⟩) ?rest10
      case hy10 => (intro W hW; go_simp <;> with_reducible rfl)
      simp only [Act.put, List.getElem_toArray, List.getElem_cons_succ, List.getElem_cons_zero, List.setIfInBounds_toArray, List.set_cons_zero, List.set_cons_succ]
      refine anyU_take (i := 14) (v := ?v11) [15, 16, 17, 18] rfl (by kernel_rfl) (by kernel_rfl) (by kernel_rfl) (fun _ _ _ h => h) (by kernel_rfl) (by kernel_rfl) s0.out (Or.inl ⟨by rfl, ?hy11⟩) ?rest11
      case hy11 => (intro W hW; go_simp <;> with_reducible rfl)
      simp only [Act.put, List.getElem_toArray, List.getElem_cons_succ, List.getElem_cons_zero, List.setIfInBounds_toArray, List.set_cons_zero, List.set_cons_succ]
      refine anyU_take (i := 15) (v := ?v12) [16, 17, 18] rfl (by kernel_rfl) (by kernel_rfl) (by kernel_rfl) (fun _ _ _ h => h) (by kernel_rfl) (by kernel_rfl) s0.out (Or.inl ⟨by rfl, ?hy12⟩) ?rest12
      case hy12 => (intro W hW; go_simp <;> with_reducible rfl)
      simp only [Act.put, List.getElem_toArray, List.getElem_cons_succ, List.getElem_cons_zero, List.setIfInBounds_toArray, List.set_cons_zero, List.set_cons_succ]
      refine anyU_take (i := 16) (v := ?v13) [17, 18] rfl (by kernel_rfl) (by kernel_rfl) (by kernel_rfl) (fun _ _ _ h => h) (by kernel_rfl) (by kernel_rfl) s0.out (Or.inl ⟨by rfl, ?hy13⟩) ?rest13
      case hy13 => (intro W hW; go_simp <;> with_reducible rfl)
      simp only [Act.put, List.getElem_toArray, List.getElem_cons_succ, List.getElem_cons_zero, List.setIfInBounds_toArray, List.set_cons_zero, List.set_cons_succ]
      refine anyU_take (i := 17) (v := ?v14) [18] rfl (by kernel_rfl) (by kernel_rfl) (by kernel_rfl) (fun _ _ _ h => h) (by kernel_rfl) (by kernel_rfl) s0.out (Or.inl ⟨by rfl, ?hy14⟩) ?rest14
      case hy14 => (intro W hW; go_simp <;> with_reducible rfl)
      simp only [Act.put, List.getElem_toArray, List.getElem_cons_succ, List.getElem_cons_zero, List.setIfInBounds_toArray, List.set_cons_zero, List.set_cons_succ]
      refine anyU_two (i := 6) (j := 12) (by kernel_rfl) rfl rfl rfl rfl ?_ ?_
      · intro K hK; simp only [List.getElem_toArray, List.getElem_cons_succ, List.getElem_cons_zero]
        go_simp
        have s1 : Hid ((wr.drew.alloc (.cells (madeCells #[.int .i64 0, .string ⟨#[]⟩, .int .i64 0] ((l.length + 2) * 3)) 42)).cell? ⟨w.heap.size, off, none⟩ = some (.slice A l.length cap)) := KS _ (by first | exact HKr.out.drew.alloc _ | exact (HKr.out.drew.alloc _).alloc _ | exact HK1.out.alloc _)
        refine hK.out _ _ (fun _ => s1.out) ?_
        clear hK
        refine anyU_two (i := 10) (j := 12) (by kernel_rfl) rfl rfl rfl rfl ?_ ?_
        · intro K hK; simp only [List.getElem_toArray, List.getElem_cons_succ, List.getElem_cons_zero]
          refine wp_append_some (.tmp 21) (.tmp 24) rfl (w0 := wr) (B := wr.heap.size) (v := .slice (some ⟨_, 0, none⟩) 0 (l.length + 2)) (l := []) (vx := .slice A l.length cap) (m := l) (r := l) rfl (made_own wr.drew _ hll) (by simp) rfl (HAw.out.rd.keep_nil (HKr.out.drew.alloc _)) HAw.out.nil (List.nil_append _) (by simp; omega) (HKr.out.drew.alloc _) (Nat.le_refl _) (HKr.out.drew.alloc _).size ?_
          intro g1 k1 w1 O1 L1 X1 G1 K1 KK1
          have HO1 := Lib.hid O1
          have HKa1 := Lib.hid K1
          have HK1 := Lib.hid KK1
          have s3 := Lib.hid (KS _ KK1)
          clear O1 L1 X1 G1 K1 KK1
          refine hK.out _ _ (fun _ => s3.out) ?_
          clear hK
          simp only [Act.put, List.setIfInBounds_toArray, List.set_cons_zero, List.set_cons_succ]
          refine anyU_one (i := 12) (by kernel_rfl) rfl rfl ?_
          intro K hK; simp only [List.getElem_toArray, List.getElem_cons_succ, List.getElem_cons_zero]
          go_simp
          have s5 : Hid ((w1.alloc (.cells #[.int .i64 9, .string ⟨#[]⟩, .int .i64 0] 42)).cell? ⟨w.heap.size, off, none⟩ = some (.slice A l.length cap)) := KS _ (by first | exact HKr.out.drew.alloc _ | exact (HKr.out.drew.alloc _).alloc _ | exact HK1.out.alloc _)
          refine hK.out _ _ (fun _ => s5.out) ?_
          clear hK
          refine anyU_one (i := 13) (by kernel_rfl) rfl rfl ?_
          intro K hK; simp only [List.getElem_toArray, List.getElem_cons_succ, List.getElem_cons_zero]
          refine wp_append_some (.tmp 25) (.tmp 27) rfl (w0 := wr) (B := wr.heap.size) (v := .slice (some ⟨g1, 0, none⟩) l.length k1) (l := l) (vx := .slice (some ⟨_, 0, none⟩) 1 1) (m := [nine]) (r := l ++ [nine]) rfl (HO1.out.keep (bs := []) ((Keep.refl [] _).alloc _) (by simp)) (by simp) rfl (new_one _) (by simp) rfl (by simp; omega) (HK1.out.alloc _) (Nat.le_refl _) (HK1.out.alloc _).size ?_
          intro g2 k2 w2 O2 L2 X2 G2 K2 KK2
          have e2 : l.length ≤ k2 := by simp at L2; omega
          have e3 : (l.length : Int) ≤ k2 := by omega
          have f2 : w2.frozen? ⟨w.heap.size, off, none⟩ = false := (KK2.frozen (p := ⟨w.heap.size, off, none⟩) hgl (by simp)).trans f1
          have HO2 := Lib.hid O2
          have HG2 := Lib.hid G2
          have HK2 := Lib.hid KK2
          have q2 := KS _ KK2
          have s4 := Lib.hid q2
          simp only [List.length_append, List.length_cons, List.length_nil]
          clear O2 L2 X2 G2 K2 KK2
          refine hK.out _ _ (fun _ => s4.out) ?_
          clear hK
          simp only [Act.put, List.setIfInBounds_toArray, List.set_cons_zero, List.set_cons_succ]
          refine anyU_take (i := 18) (v := ?v15) [] rfl (by kernel_rfl) (by kernel_rfl) (by kernel_rfl) (fun _ _ _ h => h) (by kernel_rfl) (by kernel_rfl) s4.out (Or.inl ⟨by rfl, ?hy15⟩) ?rest15
          case hy15 => (intro W hW; go_simp <;> with_reducible rfl)
          simp only [Act.put, List.getElem_toArray, List.getElem_cons_succ, List.getElem_cons_zero, List.setIfInBounds_toArray, List.set_cons_zero, List.set_cons_succ]
          refine anyU_take (i := 19) (v := ?v16) [] rfl (by kernel_rfl) (by kernel_rfl) (by kernel_rfl) (fun _ _ _ h => h) (by kernel_rfl) (by kernel_rfl) s4.out (Or.inl ⟨by rfl, ?hy16⟩) ?rest16
          case hy16 => (intro W hW; go_simp <;> with_reducible rfl)
          simp only [Act.put, List.getElem_toArray, List.getElem_cons_succ, List.getElem_cons_zero, List.setIfInBounds_toArray, List.set_cons_zero, List.set_cons_succ]
          refine anyU_one (i := 20) (by kernel_rfl) rfl rfl ?_
          intro K hK; simp only [List.getElem_toArray, List.getElem_cons_succ, List.getElem_cons_zero]
          go_simp
          refine hK.out _ _ (fun h => absurd rfl h) ?_
          clear hK
          refine anyU_done (by kernel_rfl) ?_ _
          go_wp2
          go_roundg (gk - 1)
          case measure => have := Hm.out; omega
          case rel =>
            obtain ⟨cs', r1, r2, r3, r4, r5⟩ := copied_round rfl HB.out HZ.out HP.out HK.out HPut.out HO2.out HG2.out HK2.out
            exact ⟨m + 1, cs', by have := Hm.out; omega, by go_num, r1, r2, r3, r4, r5⟩
        · intro K hK; simp only [List.getElem_toArray, List.getElem_cons_succ, List.getElem_cons_zero]
          go_simp
          have s2 : Hid (((wr.drew.alloc (.cells (madeCells #[.int .i64 0, .string ⟨#[]⟩, .int .i64 0] ((l.length + 2) * 3)) 42)).alloc (.cells #[.int .i64 9, .string ⟨#[]⟩, .int .i64 0] 42)).cell? ⟨w.heap.size, off, none⟩ = some (.slice A l.length cap)) := KS _ (by first | exact HKr.out.drew.alloc _ | exact (HKr.out.drew.alloc _).alloc _ | exact HK1.out.alloc _)
          refine hK.out _ _ (fun _ => s2.out) ?_
          clear hK
          refine anyU_one (i := 10) (by kernel_rfl) rfl rfl ?_
          intro K hK; simp only [List.getElem_toArray, List.getElem_cons_succ, List.getElem_cons_zero]
          refine wp_append_some (.tmp 21) (.tmp 24) rfl (w0 := wr) (B := wr.heap.size) (v := .slice (some ⟨_, 0, none⟩) 0 (l.length + 2)) (l := []) (vx := .slice A l.length cap) (m := l) (r := l) rfl ((made_own wr.drew _ hll).keep (bs := []) ((Keep.refl [] _).alloc _) (by simp)) (by simp) rfl (HAw.out.rd.keep_nil ((HKr.out.drew.alloc _).alloc _)) HAw.out.nil (List.nil_append _) (by simp; omega) ((HKr.out.drew.alloc _).alloc _) (Nat.le_refl _) ((HKr.out.drew.alloc _).alloc _).size ?_
          intro g1 k1 w1 O1 L1 X1 G1 K1 KK1
          have HO1 := Lib.hid O1
          have HKa1 := Lib.hid K1
          have HK1 := Lib.hid KK1
          have s3 := Lib.hid (KS _ KK1)
          clear O1 L1 X1 G1 K1 KK1
          refine hK.out _ _ (fun _ => s3.out) ?_
          clear hK
          simp only [Act.put, List.setIfInBounds_toArray, List.set_cons_zero, List.set_cons_succ]
          refine anyU_one (i := 13) (by kernel_rfl) rfl rfl ?_
          intro K hK; simp only [List.getElem_toArray, List.getElem_cons_succ, List.getElem_cons_zero]
          refine wp_append_some (.tmp 25) (.tmp 27) rfl (w0 := wr) (B := wr.heap.size) (v := .slice (some ⟨g1, 0, none⟩) l.length k1) (l := l) (vx := .slice (some ⟨_, 0, none⟩) 1 1) (m := [nine]) (r := l ++ [nine]) rfl HO1.out (by simp) rfl (nine_keep (W := wr.drew.alloc _) HKa1.out (by simp) (by simp [Value.ownBlock])) (by simp) rfl (by simp; omega) HK1.out (Nat.le_refl _) HK1.out.size ?_
          intro g2 k2 w2 O2 L2 X2 G2 K2 KK2
          have e2 : l.length ≤ k2 := by simp at L2; omega
          have e3 : (l.length : Int) ≤ k2 := by omega
          have f2 : w2.frozen? ⟨w.heap.size, off, none⟩ = false := (KK2.frozen (p := ⟨w.heap.size, off, none⟩) hgl (by simp)).trans f1
          have HO2 := Lib.hid O2
          have HG2 := Lib.hid G2
          have HK2 := Lib.hid KK2
          have q2 := KS _ KK2
          have s4 := Lib.hid q2
          simp only [List.length_append, List.length_cons, List.length_nil]
          clear O2 L2 X2 G2 K2 KK2
          refine hK.out _ _ (fun _ => s4.out) ?_
          clear hK
          simp only [Act.put, List.setIfInBounds_toArray, List.set_cons_zero, List.set_cons_succ]
          refine anyU_take (i := 18) (v := ?v17) [] rfl (by kernel_rfl) (by kernel_rfl) (by kernel_rfl) (fun _ _ _ h => h) (by kernel_rfl) (by kernel_rfl) s4.out (Or.inl ⟨by rfl, ?hy17⟩) ?rest17
          case hy17 => (intro W hW; go_simp <;> with_reducible rfl)
          simp only [Act.put, List.getElem_toArray, List.getElem_cons_succ, List.getElem_cons_zero, List.setIfInBounds_toArray, List.set_cons_zero, List.set_cons_succ]
          refine anyU_take (i := 19) (v := ?v18) [] rfl (by kernel_rfl) (by kernel_rfl) (by kernel_rfl) (fun _ _ _ h => h) (by kernel_rfl) (by kernel_rfl) s4.out (Or.inl ⟨by rfl, ?hy18⟩) ?rest18
          case hy18 => (intro W hW; go_simp <;> with_reducible rfl)
          simp only [Act.put, List.getElem_toArray, List.getElem_cons_succ, List.getElem_cons_zero, List.setIfInBounds_toArray, List.set_cons_zero, List.set_cons_succ]
          refine anyU_one (i := 20) (by kernel_rfl) rfl rfl ?_
          intro K hK; simp only [List.getElem_toArray, List.getElem_cons_succ, List.getElem_cons_zero]
          go_simp
          refine hK.out _ _ (fun h => absurd rfl h) ?_
          clear hK
          refine anyU_done (by kernel_rfl) ?_ _
          go_wp2
          go_roundg (gk - 1)
          case measure => have := Hm.out; omega
          case rel =>
            obtain ⟨cs', r1, r2, r3, r4, r5⟩ := copied_round rfl HB.out HZ.out HP.out HK.out HPut.out HO2.out HG2.out HK2.out
            exact ⟨m + 1, cs', by have := Hm.out; omega, by go_num, r1, r2, r3, r4, r5⟩
      · intro K hK; simp only [List.getElem_toArray, List.getElem_cons_succ, List.getElem_cons_zero]
        go_simp
        have s1 : Hid ((wr.drew.alloc (.cells #[.int .i64 9, .string ⟨#[]⟩, .int .i64 0] 42)).cell? ⟨w.heap.size, off, none⟩ = some (.slice A l.length cap)) := KS _ (by first | exact HKr.out.drew.alloc _ | exact (HKr.out.drew.alloc _).alloc _ | exact HK1.out.alloc _)
        refine hK.out _ _ (fun _ => s1.out) ?_
        clear hK
        refine anyU_one (i := 6) (by kernel_rfl) rfl rfl ?_
        intro K hK; simp only [List.getElem_toArray, List.getElem_cons_succ, List.getElem_cons_zero]
        go_simp
        have s2 : Hid (((wr.drew.alloc (.cells #[.int .i64 9, .string ⟨#[]⟩, .int .i64 0] 42)).alloc (.cells (madeCells #[.int .i64 0, .string ⟨#[]⟩, .int .i64 0] ((l.length + 2) * 3)) 42)).cell? ⟨w.heap.size, off, none⟩ = some (.slice A l.length cap)) := KS _ (by first | exact HKr.out.drew.alloc _ | exact (HKr.out.drew.alloc _).alloc _ | exact HK1.out.alloc _)
        refine hK.out _ _ (fun _ => s2.out) ?_
        clear hK
        refine anyU_one (i := 10) (by kernel_rfl) rfl rfl ?_
        intro K hK; simp only [List.getElem_toArray, List.getElem_cons_succ, List.getElem_cons_zero]
        refine wp_append_some (.tmp 21) (.tmp 24) rfl (w0 := wr) (B := wr.heap.size) (v := .slice (some ⟨_, 0, none⟩) 0 (l.length + 2)) (l := []) (vx := .slice A l.length cap) (m := l) (r := l) rfl (made_keep (W := wr.drew.alloc _) (b := wr.heap.size + 1) hll (Keep.refl [] _) (by simp) (Nat.le_succ _)) (by simp) rfl (HAw.out.rd.keep_nil ((HKr.out.drew.alloc _).alloc _)) HAw.out.nil (List.nil_append _) (by simp; omega) ((HKr.out.drew.alloc _).alloc _) (Nat.le_refl _) ((HKr.out.drew.alloc _).alloc _).size ?_
        intro g1 k1 w1 O1 L1 X1 G1 K1 KK1
        have HO1 := Lib.hid O1
        have HKa1 := Lib.hid K1
        have HK1 := Lib.hid KK1
        have s3 := Lib.hid (KS _ KK1)
        clear O1 L1 X1 G1 K1 KK1
        refine hK.out _ _ (fun _ => s3.out) ?_
        clear hK
        simp only [Act.put, List.setIfInBounds_toArray, List.set_cons_zero, List.set_cons_succ]
        refine anyU_one (i := 13) (by kernel_rfl) rfl rfl ?_
        intro K hK; simp only [List.getElem_toArray, List.getElem_cons_succ, List.getElem_cons_zero]
        refine wp_append_some (.tmp 25) (.tmp 27) rfl (w0 := wr) (B := wr.heap.size) (v := .slice (some ⟨g1, 0, none⟩) l.length k1) (l := l) (vx := .slice (some ⟨_, 0, none⟩) 1 1) (m := [nine]) (r := l ++ [nine]) rfl HO1.out (by simp) rfl (nine_keep (W := wr.drew) (Keep.same ((Keep.refl _ _).alloc _) HKa1.out) (by simp) (by simp [Value.ownBlock])) (by simp) rfl (by simp; omega) HK1.out (Nat.le_refl _) HK1.out.size ?_
        intro g2 k2 w2 O2 L2 X2 G2 K2 KK2
        have e2 : l.length ≤ k2 := by simp at L2; omega
        have e3 : (l.length : Int) ≤ k2 := by omega
        have f2 : w2.frozen? ⟨w.heap.size, off, none⟩ = false := (KK2.frozen (p := ⟨w.heap.size, off, none⟩) hgl (by simp)).trans f1
        have HO2 := Lib.hid O2
        have HG2 := Lib.hid G2
        have HK2 := Lib.hid KK2
        have q2 := KS _ KK2
        have s4 := Lib.hid q2
        simp only [List.length_append, List.length_cons, List.length_nil]
        clear O2 L2 X2 G2 K2 KK2
        refine hK.out _ _ (fun _ => s4.out) ?_
        clear hK
        simp only [Act.put, List.setIfInBounds_toArray, List.set_cons_zero, List.set_cons_succ]
        refine anyU_take (i := 18) (v := ?v19) [] rfl (by kernel_rfl) (by kernel_rfl) (by kernel_rfl) (fun _ _ _ h => h) (by kernel_rfl) (by kernel_rfl) s4.out (Or.inl ⟨by rfl, ?hy19⟩) ?rest19
        case hy19 => (intro W hW; go_simp <;> with_reducible rfl)
        simp only [Act.put, List.getElem_toArray, List.getElem_cons_succ, List.getElem_cons_zero, List.setIfInBounds_toArray, List.set_cons_zero, List.set_cons_succ]
        refine anyU_take (i := 19) (v := ?v20) [] rfl (by kernel_rfl) (by kernel_rfl) (by kernel_rfl) (fun _ _ _ h => h) (by kernel_rfl) (by kernel_rfl) s4.out (Or.inl ⟨by rfl, ?hy20⟩) ?rest20
        case hy20 => (intro W hW; go_simp <;> with_reducible rfl)
        simp only [Act.put, List.getElem_toArray, List.getElem_cons_succ, List.getElem_cons_zero, List.setIfInBounds_toArray, List.set_cons_zero, List.set_cons_succ]
        refine anyU_one (i := 20) (by kernel_rfl) rfl rfl ?_
        intro K hK; simp only [List.getElem_toArray, List.getElem_cons_succ, List.getElem_cons_zero]
        go_simp
        refine hK.out _ _ (fun h => absurd rfl h) ?_
        clear hK
        refine anyU_done (by kernel_rfl) ?_ _
        go_wp2
        go_roundg (gk - 1)
        case measure => have := Hm.out; omega
        case rel =>
          obtain ⟨cs', r1, r2, r3, r4, r5⟩ := copied_round rfl HB.out HZ.out HP.out HK.out HPut.out HO2.out HG2.out HK2.out
          exact ⟨m + 1, cs', by have := Hm.out; omega, by go_num, r1, r2, r3, r4, r5⟩
    · have hm44 : m = 4 := by omega
      subst hm44
      obtain ⟨u1, u2, u3, u4, rfl, a1, a2, a3, a4⟩ := hC
      obtain ⟨A1, k1, hv1, _, _, _⟩ := a1.rd
      obtain ⟨A2, k2, hv2, _, _, _⟩ := a2.rd
      obtain ⟨A3, k3, hv3, _, _, _⟩ := a3.rd
      obtain ⟨A4, k4, hv4, _, _, _⟩ := a4.rd
      subst hv1 hv2 hv3 hv4
      obtain ⟨z0, z1, z2, z3, z4, z5, z6, z7, z8, z9, zf⟩ := Pat.all hZ
      obtain ⟨p0, p1, p2, p3, p4, p5, p6, p7, p8, p9, pf⟩ := Pat.all hB
      have HA := Lib.hid (And.intro a1 (And.intro a2 (And.intro a3 a4)))
      clear hB hZ hP hK hm a1 a2 a3 a4 HC0 HSz HZ0 HC
      go_wp2
      refine bodyPost_ret (v := .agg #[.slice A1 p.pre.length k1, .slice A2 p.suf.length k2, .bool p.neg, .slice A3 p.npre.length k3, .slice A4 p.nsuf.length k4, .int .i64 p.mi, .int .i64 p.mf, .int .i64 p.xf, .int .i64 p.g, .int .i64 p.g2]) ?_ rfl ?_
      · simp [results, Tryd.results16, go_sem, z0, z1, z2, z3, z4, z5, z6, z7, z8, z9]
      · refine ⟨_, _, _, _, rfl, copied_end (Nat.le_succ _) HA.out HK.out ?_⟩
        repeat (with_reducible refine Keep.setCell ?_ (Or.inl (by simp)) _)
        exact Keep.refl _ _
end Go.Proofs.YtkkglaglnfebjaaDoor
