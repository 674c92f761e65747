/- A pattern that came in, opened; the decoder's tables, off the row's list. -/
import Derived.Test.YtkkglaglnfebjaaDoorCards
import Derived.Test.YtkkglaglnfebjaaDoorTie
import Derived.Test.YtkkglaglnfebjaaDoorWCut
import Derived.ProofKit
import Derived.OpenShut
import Derived.Deep.Slices
import Derived.Deep.DeepHandedRow
import Derived.Lib.LaidU8
import Derived.PinnedBridge
import Derived.SizedLaws
import Derived.Lib.SmallJoins
import Derived.Lib.LaidIn
namespace Go.Proofs.YtkkglaglnfebjaaDoor
open Go.ChangeShapes Go.WideShapes Go.ChangeAt Go.RowKit

theorem own : ownKnob Tryd.prog.godebug = none := by kernel_rfl
theorem laidOut : laidOutB Tryd.prog = true := by kernel_rfl
theorem array10 {α : Type} {a : Array α} (h : a.size = 10) : ∃ c0 c1 c2 c3 c4 c5 c6 c7 c8 c9, a = #[c0, c1, c2, c3, c4, c5, c6, c7, c8, c9] := by
  obtain ⟨l⟩ := a
  match l, h with
  | [c0, c1, c2, c3, c4, c5, c6, c7, c8, c9], _ => exact ⟨c0, c1, c2, c3, c4, c5, c6, c7, c8, c9, rfl⟩
theorem cellsPat : Tryd.prog.cellsOf 25 = 10 := by kernel_rfl
theorem cellsAff : Tryd.prog.cellsOf 42 = 3 := by kernel_rfl
theorem cellsInt : Tryd.prog.cellsOf 3 = 1 := by kernel_rfl
theorem cellsStr : Tryd.prog.cellsOf 9 = 1 := by kernel_rfl
theorem cellsBool : Tryd.prog.cellsOf 4 = 1 := by kernel_rfl
theorem cellsSl : Tryd.prog.cellsOf 23 = 1 := by kernel_rfl

section
variable {H : Type} {enc : TypeId × Value → H} {w : World} {base : Nat} {spare : Nat → Bool} {held : Bool}
/-- A piece, as the form's data. -/
def affD (a : Aff) : DataW H := .agg [.lit (.int .i64 a.k), .lit (.string a.t.data.toList), .lit (.int .i64 a.c)]
set_option maxRecDepth 100000 in
theorem open_aff {n : Nat} {cs : List Value} {x : DataW H × List MemPlace} (h : DataW.trod enc Tryd.prog w base spare held n 42 cs = some x) :
    ∃ a : Aff, cs = a.cells ∧ x.1 = affD a := by
  obtain ⟨xs, m, rfl, rfl, hl, hxl, hall⟩ := DataW.trod_struct Tryd.underlying42 h
  rw [cellsAff] at hl
  match cs, hl with
  | [c0, c1, c2], _ =>
    have h0 : DataW.trod enc Tryd.prog w base spare held m 3 (([c0, c1, c2].drop 0).take (Tryd.prog.cellsOf 3)) = xs[0]? := hall 0 _ rfl
    have h1 : DataW.trod enc Tryd.prog w base spare held m 9 (([c0, c1, c2].drop 1).take (Tryd.prog.cellsOf 9)) = xs[1]? := hall 1 _ rfl
    have h2 : DataW.trod enc Tryd.prog w base spare held m 3 (([c0, c1, c2].drop 2).take (Tryd.prog.cellsOf 3)) = xs[2]? := hall 2 _ rfl
    rw [cellsInt] at h0 h2
    rw [cellsStr] at h1
    match xs, hxl with
    | [y0, y1, y2], _ =>
      obtain ⟨k, e0, rfl, _⟩ := DataW.trod_int Tryd.underlying3 h0
      obtain ⟨t, e1, rfl, _⟩ := DataW.trod_string Tryd.underlying9 h1
      obtain ⟨c, e2, rfl, _⟩ := DataW.trod_int Tryd.underlying3 h2
      simp at e0 e1 e2
      subst e0 e1 e2
      exact ⟨⟨k, t, c⟩, rfl, rfl⟩
theorem flat3 (f : Nat → Aff) : ∀ n j, j < n * 3 → (affC ((List.range n).map f))[j]? = (f (j / 3)).cells[j % 3]? := by
  intro n j hj
  have hi : ((List.range n).map f)[j / 3]? = some (f (j / 3)) := by
    rw [List.getElem?_map, List.getElem?_range (by omega)]; rfl
  have := affC_in _ (j / 3) _ hi (j % 3) (Nat.mod_lt _ (by omega))
  rwa [show j / 3 * 3 + j % 3 = j by omega] at this
theorem open_affs {n : Nat} {c : Value} {x : DataW H × List MemPlace} (h : DataW.trod enc Tryd.prog w base spare held n 23 [c] = some x) :
    ∃ A m k l, c = .slice A m k ∧ RdA w c l ∧ ((x.1 = .nil ∧ l = []) ∨ ∃ sp, x.1 = .slice (l.map affD) sp) ∧ (A = none → m = 0 ∧ k = 0) := by
  rcases Deep.open_slice Tryd.underlying23 h with ⟨hc, rfl⟩ | ⟨a, len, cap, m, n', D, Pl, hc, hb, hl, hm, hmm, rfl, hx⟩
  · simp at hc
    subst hc
    exact ⟨none, 0, 0, [], rfl, RdA.nil w, .inl ⟨rfl, rfl⟩, fun _ => ⟨rfl, rfl⟩⟩
  · simp at hc
    subst hc
    have hlm : len ≤ m := by rw [hmm]; split <;> omega
    have hx2 : ∀ i, i < len → ∃ q : Aff, D i = affD q ∧ ∀ j, j < 3 → w.cell? (a.add (i * 3 + j)) = q.cells[j]? := fun i hi => by
      obtain ⟨cs', h1, h2⟩ := hx i (by omega)
      rw [cellsAff] at h1
      obtain ⟨q, rfl, hq⟩ := open_aff h2
      obtain ⟨_, _, h3⟩ := World.cells?_some h1
      exact ⟨q, hq, fun j hj => by rw [← add_of_add]; exact h3 j hj⟩
    have hI : Inhabited Aff := ⟨⟨0, ⟨#[]⟩, 0⟩⟩
    obtain ⟨f, hf⟩ := Deep.choose_lt hx2
    refine ⟨some a, len, cap, (List.range len).map f, rfl, ⟨some a, cap, by simp, by simpa using hl, hm, fun hne => ?_⟩, .inr ⟨(List.range (m - len)).map fun j => D (len + j), ?_⟩, fun h => by cases h⟩
    · have hlen : 0 < len := by
        rcases Nat.eq_zero_or_pos len with h0 | h0
        · subst h0; simp at hne
        · exact h0
      have h00 := (hf 0 hlen).2 0 (by omega)
      have hsp : a.spot = none ∧ a.block < w.heap.size := by
        rw [show a.add (0 * 3 + 0) = a by simp [Addr.add]] at h00
        have h01 : w.cell? a = some (.int .i64 (f 0).k) := h00
        unfold World.cell? at h01
        split at h01
        · rename_i heq
          refine ⟨?_, (Array.getElem?_eq_some_iff.1 heq).1⟩
          cases hs : a.spot with
          | none => rfl
          | some _ => rw [hs] at h01; simp at h01
        · cases h01
      obtain ⟨b, o, sp⟩ := a
      obtain ⟨hs1, hs2⟩ := hsp
      simp only at hs1 hs2
      subst hs1
      refine ⟨b, o, rfl, hs2, fun j u hu => ?_⟩
      have hj : j < len * 3 := by
        have := (List.getElem?_eq_some_iff.1 hu).1
        rw [affC_length] at this
        simpa using this
      rw [flat3 f len j hj] at hu
      have := (hf (j / 3) (by omega)).2 (j % 3) (Nat.mod_lt _ (by omega))
      rw [show j / 3 * 3 + j % 3 = j by omega, hu] at this
      rw [← this]
      unfold Addr.add
      split <;> simp_all
    · simp only
      congr 1
      rw [List.map_map]
      exact List.map_congr_left fun i hi => (hf i (by simpa using hi)).1
/-- How a slice of pieces reads, as the form's data. -/
def SlD (d : DataW H) (l : List Aff) : Prop := (d = .nil ∧ l = []) ∨ ∃ sp, d = .slice (l.map affD) sp
set_option maxRecDepth 100000 in
theorem open_pat {r : Reach} {b0 : Nat} {v : Value} {d : DataW H} {ps : List MemPlace} (hv : Value.okWide Tryd.prog w r b0 25 v) (h : DataW.Trod enc Tryd.prog w base spare held 25 v d ps) :
    ∃ (A1 A2 A3 A4 : Option Addr) (n1 n2 n3 n4 k1 k2 k3 k4 : Nat) (p : PatD) (e1 e2 e3 e4 : DataW H), v = patV (.slice A1 n1 k1) (.slice A2 n2 k2) (.slice A3 n3 k3) (.slice A4 n4 k4) p ∧
      RdP w (.slice A1 n1 k1) (.slice A2 n2 k2) (.slice A3 n3 k3) (.slice A4 n4 k4) p ∧ d = .agg [e1, e2, .lit (.bool p.neg), e3, e4, .lit (.int .i64 p.mi), .lit (.int .i64 p.mf), .lit (.int .i64 p.xf), .lit (.int .i64 p.g), .lit (.int .i64 p.g2)] ∧
      SlD e1 p.pre ∧ SlD e2 p.suf ∧ SlD e3 p.npre ∧ SlD e4 p.nsuf ∧ (A1 = none → n1 = 0 ∧ k1 = 0) ∧ (A2 = none → n2 = 0 ∧ k2 = 0) ∧ (A3 = none → n3 = 0 ∧ k3 = 0) ∧ (A4 = none → n4 = 0 ∧ k4 = 0) := by
  obtain ⟨cs, rfl, hsz⟩ := okWide_struct Tryd.underlying25 hv
  obtain ⟨c0, c1, c2, c3, c4, c5, c6, c7, c8, c9, rfl⟩ := array10 (hsz.trans cellsPat)
  obtain ⟨fuel, hf⟩ := h
  obtain ⟨xs, m, rfl, hx, _, hxl, hall⟩ := DataW.trod_struct Tryd.underlying25 hf
  simp only [Prod.mk.injEq] at hx
  obtain ⟨hd, _⟩ := hx
  have h0 : DataW.trod enc Tryd.prog w base spare held m 23 (([c0, c1, c2, c3, c4, c5, c6, c7, c8, c9].drop 0).take (Tryd.prog.cellsOf 23)) = xs[0]? := hall 0 _ rfl
  have h1 : DataW.trod enc Tryd.prog w base spare held m 23 (([c0, c1, c2, c3, c4, c5, c6, c7, c8, c9].drop 1).take (Tryd.prog.cellsOf 23)) = xs[1]? := hall 1 _ rfl
  have h2 : DataW.trod enc Tryd.prog w base spare held m 4 (([c0, c1, c2, c3, c4, c5, c6, c7, c8, c9].drop 2).take (Tryd.prog.cellsOf 4)) = xs[2]? := hall 2 _ rfl
  have h3 : DataW.trod enc Tryd.prog w base spare held m 23 (([c0, c1, c2, c3, c4, c5, c6, c7, c8, c9].drop 3).take (Tryd.prog.cellsOf 23)) = xs[3]? := hall 3 _ rfl
  have h4 : DataW.trod enc Tryd.prog w base spare held m 23 (([c0, c1, c2, c3, c4, c5, c6, c7, c8, c9].drop 4).take (Tryd.prog.cellsOf 23)) = xs[4]? := hall 4 _ rfl
  have h5 : DataW.trod enc Tryd.prog w base spare held m 3 (([c0, c1, c2, c3, c4, c5, c6, c7, c8, c9].drop 5).take (Tryd.prog.cellsOf 3)) = xs[5]? := hall 5 _ rfl
  have h6 : DataW.trod enc Tryd.prog w base spare held m 3 (([c0, c1, c2, c3, c4, c5, c6, c7, c8, c9].drop 6).take (Tryd.prog.cellsOf 3)) = xs[6]? := hall 6 _ rfl
  have h7 : DataW.trod enc Tryd.prog w base spare held m 3 (([c0, c1, c2, c3, c4, c5, c6, c7, c8, c9].drop 7).take (Tryd.prog.cellsOf 3)) = xs[7]? := hall 7 _ rfl
  have h8 : DataW.trod enc Tryd.prog w base spare held m 3 (([c0, c1, c2, c3, c4, c5, c6, c7, c8, c9].drop 8).take (Tryd.prog.cellsOf 3)) = xs[8]? := hall 8 _ rfl
  have h9 : DataW.trod enc Tryd.prog w base spare held m 3 (([c0, c1, c2, c3, c4, c5, c6, c7, c8, c9].drop 9).take (Tryd.prog.cellsOf 3)) = xs[9]? := hall 9 _ rfl
  rw [cellsSl] at h0
  rw [cellsSl] at h1
  rw [cellsBool] at h2
  rw [cellsSl] at h3
  rw [cellsSl] at h4
  rw [cellsInt] at h5
  rw [cellsInt] at h6
  rw [cellsInt] at h7
  rw [cellsInt] at h8
  rw [cellsInt] at h9
  clear hall hf
  match xs, hxl with
  | [y0, y1, y2, y3, y4, y5, y6, y7, y8, y9], _ =>
    obtain ⟨A1, n1, k1, l1, rfl, r1, s1, z1⟩ := open_affs h0
    obtain ⟨A2, n2, k2, l2, rfl, r2, s2, z2⟩ := open_affs h1
    obtain ⟨b, e2, rfl⟩ := DataW.trod_bool Tryd.underlying4 h2
    obtain ⟨A3, n3, k3, l3, rfl, r3, s3, z3⟩ := open_affs h3
    obtain ⟨A4, n4, k4, l4, rfl, r4, s4, z4⟩ := open_affs h4
    obtain ⟨mi, e5, rfl, _⟩ := DataW.trod_int Tryd.underlying3 h5
    obtain ⟨mf, e6, rfl, _⟩ := DataW.trod_int Tryd.underlying3 h6
    obtain ⟨xf, e7, rfl, _⟩ := DataW.trod_int Tryd.underlying3 h7
    obtain ⟨g, e8, rfl, _⟩ := DataW.trod_int Tryd.underlying3 h8
    obtain ⟨g2, e9, rfl, _⟩ := DataW.trod_int Tryd.underlying3 h9
    simp at e2 e5 e6 e7 e8 e9
    subst e2 e5 e6 e7 e8 e9
    exact ⟨A1, A2, A3, A4, n1, n2, n3, n4, k1, k2, k3, k4, ⟨l1, l2, b, l3, l4, mi, mf, xf, g, g2⟩, y0.1, y1.1, y3.1, y4.1, rfl, ⟨r1, r2, r3, r4⟩, hd, s1, s2, s3, s4, z1, z2, z3, z4⟩
theorem weightsAll_in (P : Program) (e : TypeId) : ∀ (l : List (DataW H)) (d : DataW H) (x : Nat), d ∈ l → x ∈ d.weights P e → x ∈ DataW.weightsAll P e l
  | a :: l, d, x, hd, hx => by
    simp only [DataW.weightsAll, List.mem_append]
    rcases List.mem_cons.1 hd with rfl | hd
    · exact .inl hx
    · exact .inr (weightsAll_in P e l d x hd hx)
set_option maxRecDepth 100000 in
theorem weights_sl {d : DataW H} {l : List Aff} (h : SlD d l) (a : Aff) (ha : a ∈ l) : a.t.size ∈ d.weights Tryd.prog 23 := by
  rcases h with ⟨_, rfl⟩ | ⟨sp, rfl⟩
  · cases ha
  · have h1 : a.t.size ∈ (affD a : DataW H).weights Tryd.prog 42 := by
      simp only [affD, DataW.weights, Tryd.underlying42]
      refine DataW.weights_mem_each (j := 1) (t := 9) (d := .lit (.string a.t.data.toList)) rfl rfl _ ?_
      simp only [DataW.weights, List.mem_singleton]
      rw [Array.length_toList]; rfl
    simp only [DataW.weights, Tryd.underlying23, List.mem_cons, List.mem_append]
    exact .inr (.inl (weightsAll_in _ _ _ (affD a) _ (List.mem_map.2 ⟨a, ha, rfl⟩) h1))
set_option maxRecDepth 100000 in
/-- The reach: each text of a pattern's pieces is short. -/
theorem pat_sz {ts : List TypeId} {ds : List (DataW H)} (h : (DataW.weightsEach Tryd.prog ts ds).all (· ≤ reachBytes) = true) {j : Nat} {p : PatD} {e1 e2 e3 e4 x5 x3 x6 x7 x8 x9 : DataW H} (ht : ts[j]? = some 25)
    (hd : ds[j]? = some (.agg [e1, e2, x3, e3, e4, x5, x6, x7, x8, x9])) (s1 : SlD e1 p.pre) (s2 : SlD e2 p.suf) (s3 : SlD e3 p.npre) (s4 : SlD e4 p.nsuf) :
    ∀ a, a ∈ p.pre ∨ a ∈ p.suf ∨ a ∈ p.npre ∨ a ∈ p.nsuf → a.t.size ≤ 9223372036854775000 := by
  intro a ha
  have key : a.t.size ∈ (DataW.agg [e1, e2, x3, e3, e4, x5, x6, x7, x8, x9]).weights Tryd.prog 25 := by
    simp only [DataW.weights, Tryd.underlying25]
    rcases ha with ha | ha | ha | ha
    · exact DataW.weights_mem_each (j := 0) (t := 23) rfl rfl _ (weights_sl s1 a ha)
    · exact DataW.weights_mem_each (j := 1) (t := 23) rfl rfl _ (weights_sl s2 a ha)
    · exact DataW.weights_mem_each (j := 3) (t := 23) rfl rfl _ (weights_sl s3 a ha)
    · exact DataW.weights_mem_each (j := 4) (t := 23) rfl rfl _ (weights_sl s4 a ha)
  have := List.all_eq_true.1 h _ (DataW.weights_mem_each ht hd _ key)
  have h2 := reachBytes_lt
  simp only [decide_eq_true_eq] at this
  omega
end
theorem acc_eq : (Rows.laid_unicode_utf8_acceptRanges : DataW Unit) = Lib.acceptData := by kernel_rfl
theorem first_eq : Rows.laid_unicode_utf8_first = Lib.firstData := Pinned.utf8First_eq
/-- What the row's list gives: the decoder's tables; the ground of the calls. -/
theorem env_of {W : World} (h : laidMetH Tryd.prog [("unicode/utf8.acceptRanges", Rows.laid_unicode_utf8_acceptRanges), ("unicode/utf8.first", Rows.laid_unicode_utf8_first)] W) : Env W.heap.size W := by
  have hL : laidMet Tryd.prog [("unicode/utf8.acceptRanges", Rows.laid_unicode_utf8_acceptRanges), ("unicode/utf8.first", Rows.laid_unicode_utf8_first)] W := h
  have r1 := Lib.laidMet.reads hL (.tail _ (.head _))
  have r2 := Lib.laidMet.reads hL (.head _)
  rw [first_eq] at r1
  rw [acc_eq] at r2
  have hU : Lib.Utf8Tabs 1 2 W := utf8Tabs_of_reads (ρ := Tryd.lays260_ren) { Tryd.lays260 with } ⟨by kernel_rfl, by kernel_rfl, by kernel_rfl, by kernel_rfl, by kernel_rfl, by kernel_rfl, by kernel_rfl⟩ r1 r2
  refine ⟨?_, Nat.le_refl _, hU⟩
  have := (hU.2 0 (by omega)).1
  unfold World.cell? at this
  split at this
  · rename_i heq
    exact (Array.getElem?_eq_some_iff.1 heq).1
  · cases this

/-- A world for the witness: the settled one, the two tables holding what their initialisers lay. -/
noncomputable def laidWorld (os : Os) : World :=
  let w0 := World.holding Tryd.prog os ⟨#[], #[], []⟩
  let put (h : Array Obj) (g : Nat) (cs : Array Value) : Array Obj := h.modify g fun
    | .cells _ t frozen => .cells cs t frozen
    | o => o
  let h1 := put w0.heap 1 (Lib.firstTab.map fun z => Value.int .u8 z).toArray
  let h2 := put h1 2 ((List.range 16).flatMap fun i => [Value.int .u8 (Lib.accLo i), Value.int .u8 (Lib.accHi i)]).toArray
  { w0 with heap := h2 }
theorem laid_met (os : Os) (args : Array Value) : laidMet Tryd.prog [("unicode/utf8.acceptRanges", Rows.laid_unicode_utf8_acceptRanges), ("unicode/utf8.first", Rows.laid_unicode_utf8_first)] ((laidWorld os).forCall (fun _ _ => 0) ⟨#[], args, []⟩).memory :=
  (LaidIn.of_run [1, 2] 8 (by kernel_rfl) (by kernel_rfl) (by kernel_rfl) (by kernel_rfl)).met
/-- The zero pattern, as the form's data. -/
def zeroD {H : Type} : DataW H := .agg [.nil, .nil, .lit (.bool false), .nil, .nil, .lit (.int .i64 0), .lit (.int .i64 0), .lit (.int .i64 0), .lit (.int .i64 0), .lit (.int .i64 0)]
end Go.Proofs.YtkkglaglnfebjaaDoor
