/- NumPatPrints holds, in its second form: Print writes what the law says, for every pattern of bounded bulk. The decoder's tables as the program's text lays them, tied by the card. -/
import Derived.Test.YtkkglaglnfebjaaDoorRowK
import Derived.Test.YtkkglaglnfebjaaDoorWLPrints
namespace Go.Proofs.YtkkglaglnfebjaaDoor.prints
open Go.ChangeShapes Go.WideShapes Go.ChangeAt Go.RowKit

theorem one_le {H : Type} (d : DataW H) : 1 ≤ Rows.uptoBulk d := by
  cases d with
  | lit l => cases l <;> simp [Rows.uptoBulk]
  | nil => simp [Rows.uptoBulk]
  | ptr d => simp [Rows.uptoBulk]
  | slice elems spare => simp [Rows.uptoBulk]
  | agg parts => simp [Rows.uptoBulk]
  | iface t d => simp [Rows.uptoBulk]
  | map entries => simp [Rows.uptoBulk]
  | held h => simp [Rows.uptoBulk]
theorem part_le {H : Type} {d : DataW H} {l : List (DataW H)} (h : d ∈ l) : Rows.uptoBulk d ≤ Rows.uptoBulkAll l := by
  induction l with
  | nil => cases h
  | cons x r ih =>
    simp only [Rows.uptoBulkAll]
    cases List.mem_cons.1 h with
    | inl e => subst e; omega
    | inr e => have := ih e; omega
theorem string_eq {H : Type} (bytes : List UInt8) : Rows.uptoBulk (DataW.lit (H := H) (.string bytes)) = bytes.length + 1 := by
  simp [Rows.uptoBulk]
theorem agg_le {H : Type} (l : List (DataW H)) : Rows.uptoBulkAll l ≤ Rows.uptoBulk (.agg l) := by
  simp only [Rows.uptoBulk]; omega
theorem up_sl {H : Type} {d : DataW H} {l : List Aff} (h : SlD d l) (a : Aff) (ha : a ∈ l) : a.t.size + 1 ≤ Rows.uptoBulk d := by
  rcases h with ⟨_, rfl⟩ | ⟨sp, rfl⟩
  · cases ha
  · have h1 : Rows.uptoBulkAll (l.map (affD (H := H))) + 1 ≤ Rows.uptoBulk (DataW.slice (H := H) (l.map affD) sp) := by simp only [Rows.uptoBulk]; omega
    have h2 := part_le (List.mem_map.2 ⟨a, ha, rfl⟩ : (affD a : DataW H) ∈ l.map (affD (H := H)))
    have h3 : Rows.uptoBulkAll (H := H) [.lit (.int .i64 a.k), .lit (.string a.t.data.toList), .lit (.int .i64 a.c)] ≤ Rows.uptoBulk (affD a : DataW H) := agg_le _
    have h4 := part_le (H := H) (d := .lit (.string a.t.data.toList)) (l := [.lit (.int .i64 a.k), .lit (.string a.t.data.toList), .lit (.int .i64 a.c)]) (by simp)
    rw [string_eq, Array.length_toList] at h4
    have h5 : a.t.data.size = a.t.size := rfl
    omega
theorem pat_up {H : Type} {ds : List (DataW H)} (hk : Rows.uptoSmall H ds = true) {p : PatD} {e1 e2 e3 e4 x5 x3 x6 x7 x8 x9 : DataW H} (hd : DataW.agg [e1, e2, x3, e3, e4, x5, x6, x7, x8, x9] ∈ ds) (s1 : SlD e1 p.pre) (s2 : SlD e2 p.suf) (s3 : SlD e3 p.npre) (s4 : SlD e4 p.nsuf) : TxtUp p := by
  have hb : Rows.uptoBulkAll ds ≤ 1048576 := by simpa [Rows.uptoSmall] using hk
  have h1 := part_le hd
  have h2 := agg_le [e1, e2, x3, e3, e4, x5, x6, x7, x8, x9]
  intro a ha
  rcases ha with ha | ha | ha | ha
  · have h3 := up_sl s1 a ha
    have h4 := part_le (d := e1) (l := [e1, e2, x3, e3, e4, x5, x6, x7, x8, x9]) (by simp)
    omega
  · have h3 := up_sl s2 a ha
    have h4 := part_le (d := e2) (l := [e1, e2, x3, e3, e4, x5, x6, x7, x8, x9]) (by simp)
    omega
  · have h3 := up_sl s3 a ha
    have h4 := part_le (d := e3) (l := [e1, e2, x3, e3, e4, x5, x6, x7, x8, x9]) (by simp)
    omega
  · have h3 := up_sl s4 a ha
    have h4 := part_le (d := e4) (l := [e1, e2, x3, e3, e4, x5, x6, x7, x8, x9]) (by simp)
    omega

set_option maxRecDepth 100000 in
theorem contract (H : Type) (enc : TypeId × Value → H) (W : World) (base : Nat) (args : Array Value) (ds gs : List (DataW H)) (before : List MemPlace)
    (hval : ∀ (j : Nat) t v, Tryd.f4.params[j]? = some t → args[j]? = some v → Value.okWide Tryd.prog W .any base t v)
    (hW : DataW.Whole enc Tryd.prog Tryd.f4.params.toList Rows.numPatPrintsSpec.vars false W args.toList ds gs before)
    (hL : laidMetH Tryd.prog Rows.numPatPrintsUptoRow.laid W) (hk : Rows.uptoSmall H (ds ++ gs) = true) :
    Calls Tryd.prog 4 args W fun e W' => ∃ v, e = .returned v ∧ Rows.numPatPrintsSpec.post enc Tryd.prog Tryd.f4 false true false false W args v W' := by
  have hW' := hW
  obtain ⟨p, q, hA0, hV, rfl, hfz, hnd⟩ := hW
  have hA : DataW.TrodAll enc Tryd.prog W 0 (fun _ => true) true Tryd.f4.params.toList args.toList ds p := hA0
  have hA1 := hA
  rw [Tryd.params4] at hA hval
  obtain ⟨v0, vs0, d0, ds0, p0, q0, hargs, rfl, rfl, h0, r0⟩ := trodAll_cons hA
  obtain ⟨v1, vs1, d1, ds1, p1, q1, hargs1, rfl, rfl, h1, r1⟩ := trodAll_cons r0
  obtain ⟨rfl, rfl, rfl⟩ := trodAll_nil r1
  obtain rfl : args = #[v0, v1] := by cases args; simp_all
  obtain ⟨rfl, rfl⟩ := trodVars_none hV
  have hlt := fun x hx => hW'.lt x hx
  have g0 := h0
  have g1 := h1
  obtain ⟨A1, A2, A3, A4, n1, n2, n3, n4, k1, k2, k3, k4, pt, e1, e2, e3, e4, rfl, hp, rfl, s1, s2, s3, s4, z1, z2, z3, z4⟩ := open_pat (hval 0 25 v0 rfl rfl) h0
  obtain ⟨B1, B2, B3, B4, m1, m2, m3, m4, j1, j2, j3, j4, qt, y1, y2, y3, y4, rfl, hq, rfl, _, _, _, _, _, _, _, _⟩ := open_pat (hval 1 25 v1 rfl rfl) h1
  have hsz : TxtUp pt := pat_up hk (List.mem_append.2 (.inl (List.mem_cons_self ..))) s1 s2 s3 s4
  refine (law_prints W (env_of hL) A1 A2 A3 A4 B1 B2 B3 B4 n1 n2 n3 n4 k1 k2 k3 k4 m1 m2 m3 m4 j1 j2 j3 j4 pt qt hp (nilP_of z1 z2 z3 z4) hsz hq).mono fun e W' ⟨he, hk⟩ => ?_
  subst he
  have hb := hk.toBelow
  have t0 := hb.trod laidOut (by kernel_rfl) (of_decide_eq_true (by kernel_rfl)) g0 (fun x hx => hlt x (by simp [hx]))
  have t1 := hb.trod laidOut (by kernel_rfl) (of_decide_eq_true (by kernel_rfl)) g1 (fun x hx => hlt x (by simp [hx]))
  exact ⟨_, rfl, _, _, _, [], _, [], hW', trodAll_cons_mk (shut_bool Tryd.underlying4 _) trodAll_mk0, trodAll_cons_mk t0 (trodAll_cons_mk t1 trodAll_mk0), rfl, hb.frame _, fun h => by cases h⟩

theorem reads (os : Os) {H : Type} (enc : TypeId × Value → H) : ∃ places, DataW.whole enc Tryd.prog ((laidWorld os).forCall (fun _ _ => 0) ⟨#[], #[zeroPat, zeroPat], []⟩).memory Tryd.f4.params.toList Rows.numPatPrintsSpec.vars false #[zeroPat, zeroPat].toList 8 = some ([zeroD, zeroD], [], places) :=
  ⟨[], by kernel_rfl⟩

set_option maxRecDepth 100000 in
theorem lifted (os : Os) (started : os.Started) (H : Type) (enc : TypeId × Value → H) (F : Stop.Interp) :
    ReturnsInHanded {} Tryd.checked os 4 .any ((Rows.OpenSpec.upto Rows.numPatPrintsSpec).preRow enc Tryd.prog Tryd.f4 Rows.numPatPrintsUptoRow.domain false Rows.numPatPrintsUptoRow.laid) (((Rows.OpenSpec.upto Rows.numPatPrintsSpec).at F).post enc Tryd.prog Tryd.f4 false true false false) := by
  obtain ⟨places, hx⟩ := reads os enc
  refine returnsInHanded_of_row (C := Tryd.checked) (s := Rows.OpenSpec.upto Rows.numPatPrintsSpec) own started (by kernel_rfl) Tryd.func4
    (witness_row_at (enc := enc) (C := Tryd.checked) false (laidWorld os) #[zeroPat, zeroPat] rfl (by kernel_rfl) (by kernel_rfl) (by kernel_rfl)
      (OpenSpec.preRow_of_cond 8 hx (by kernel_rfl) (fun k hk => by cases hk; kernel_rfl) (by kernel_rfl) (laid_met os _))) ?_
  intro W base args ds gs before hval hW _ hcond _ hL _ _
  exact contract H enc W base args ds gs before hval hW hL (hcond _ rfl)

theorem said : Rows.NumPatPrintsUptoSaid :=
  OpenClaim.holds_of_cond 4 Tryd.f4 rfl rfl rfl rfl rfl rfl rfl ⟨rfl, rfl, rfl, rfl, rfl⟩ rfl rfl rfl rfl rfl (by kernel_rfl) Tryd.func4 (by kernel_rfl)
    (of_decide_eq_true (by kernel_rfl)) (by unfold Func.isWrapper; first | (rw [if_pos (by decide +kernel)]; kernel_rfl) | (rw [if_neg (by decide +kernel)]; exact ⟨rfl, rfl⟩))
    (fun os started H enc _ F => by rw [OpenClaim.pre_eq_preRow]; exact lifted os started H enc F)
theorem plain (f : FuncId) (fn : Func) (hf : Tryd.pinned.checked.prog.funcNamed "vernacular/vernacularlaw16.NumPatPrints" = some f) (hfn : Tryd.pinned.checked.prog.funcs[f]? = some fn) :
    false = Tryd.pinned.checked.prog.looks [] ∧ ∀ (j : Nat) t, fn.params[j]? = some t → Tryd.pinned.checked.prog.wantsStandIn t = false := by
  obtain rfl : f = 4 := Option.some.inj ((show Tryd.prog.funcNamed "vernacular/vernacularlaw16.NumPatPrints" = some 4 by kernel_rfl).symm.trans hf) |>.symm
  obtain rfl : fn = Tryd.f4 := (Option.some.inj (Tryd.func4.symm.trans hfn)).symm
  refine ⟨by kernel_rfl, fun j t ht => ?_⟩
  rw [Tryd.params4] at ht
  have hm := Array.mem_of_getElem? ht
  obtain rfl : t = 25 := by simpa using hm
  exact (show Tryd.prog.wantsStandIn 25 = false by kernel_rfl)
theorem card : Rows.NumPatPrintsUptoCardSaid :=
  Claim7.holds_tied_plain_at .later [] _ _ _ _ said (fun _ h => by cases h) (by kernel_rfl) (fun _ h => by cases h) numPatPrintsUpto_row_tie rfl ⟨rfl, rfl⟩ (by kernel_rfl) rfl plain (by kernel_rfl)
end Go.Proofs.YtkkglaglnfebjaaDoor.prints

