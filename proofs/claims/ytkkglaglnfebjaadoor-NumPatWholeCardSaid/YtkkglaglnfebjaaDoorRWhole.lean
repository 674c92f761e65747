/- NumPatWhole holds: the digits by a pattern are the decimal's own, rounded. For every pattern and decimal. No condition beyond the row's own (the decoder's tables as the program's text lays them, tied by the card). -/
import Derived.Test.YtkkglaglnfebjaaDoorRowK
import Derived.Test.YtkkglaglnfebjaaDoorWLWhole
namespace Go.Proofs.YtkkglaglnfebjaaDoor.whole
open Go.ChangeShapes Go.WideShapes Go.ChangeAt Go.RowKit

theorem array3 {α : Type} {a : Array α} (h : a.size = 3) : ∃ c0 c1 c2, a = #[c0, c1, c2] := by
  obtain ⟨l⟩ := a
  match l, h with
  | [c0, c1, c2], _ => exact ⟨c0, c1, c2, rfl⟩
theorem cellsDec : Tryd.prog.cellsOf 51 = 3 := by kernel_rfl
/-- A decimal, as the form's data. -/
def decD {H : Type} (neg : Bool) (s : ByteArray) (sc : Int) : DataW H := .agg [.lit (.bool neg), .lit (.string s.data.toList), .lit (.int .i64 sc)]
set_option maxRecDepth 100000 in
theorem open_dec {H : Type} {enc : TypeId × Value → H} {w : World} {base : Nat} {spare : Nat → Bool} {held : Bool} {r : Reach} {b0 : Nat} {v : Value} {d : DataW H} {ps : List MemPlace} (hv : Value.okWide Tryd.prog w r b0 51 v) (h : DataW.Trod enc Tryd.prog w base spare held 51 v d ps) :
    ∃ (neg : Bool) (s : ByteArray) (sc : Int), v = decV neg s sc ∧ d = decD neg s sc := by
  obtain ⟨cs, rfl, hsz⟩ := okWide_struct Tryd.underlying51 hv
  obtain ⟨c0, c1, c2, rfl⟩ := array3 (hsz.trans cellsDec)
  obtain ⟨fuel, hf⟩ := h
  obtain ⟨xs, m, rfl, hx, _, hxl, hall⟩ := DataW.trod_struct Tryd.underlying51 hf
  simp only [Prod.mk.injEq] at hx
  obtain ⟨hd, _⟩ := hx
  have h0 : DataW.trod enc Tryd.prog w base spare held m 4 (([c0, c1, c2].drop 0).take (Tryd.prog.cellsOf 4)) = xs[0]? := hall 0 _ rfl
  have h1 : DataW.trod enc Tryd.prog w base spare held m 9 (([c0, c1, c2].drop 1).take (Tryd.prog.cellsOf 9)) = xs[1]? := hall 1 _ rfl
  have h2 : DataW.trod enc Tryd.prog w base spare held m 3 (([c0, c1, c2].drop 2).take (Tryd.prog.cellsOf 3)) = xs[2]? := hall 2 _ rfl
  rw [cellsBool] at h0
  rw [cellsStr] at h1
  rw [cellsInt] at h2
  clear hall hf
  match xs, hxl with
  | [y0, y1, y2], _ =>
    obtain ⟨b, e0, rfl⟩ := DataW.trod_bool Tryd.underlying4 h0
    obtain ⟨t, e1, rfl, _⟩ := DataW.trod_string Tryd.underlying9 h1
    obtain ⟨c, e2, rfl, _⟩ := DataW.trod_int Tryd.underlying3 h2
    simp at e0 e1 e2
    subst e0 e1 e2
    exact ⟨b, t, c, rfl, hd⟩
set_option maxRecDepth 100000 in
/-- The reach: a decimal's text is short. -/
theorem dec_sz {H : Type} {ts : List TypeId} {ds : List (DataW H)} (h : (DataW.weightsEach Tryd.prog ts ds).all (· ≤ reachBytes) = true) {j : Nat} {neg : Bool} {s : ByteArray} {sc : Int} (ht : ts[j]? = some 51)
    (hd : ds[j]? = some (decD neg s sc)) : s.size ≤ 9223372036854775800 := by
  have key : s.size ∈ (decD neg s sc : DataW H).weights Tryd.prog 51 := by
    simp only [decD, DataW.weights, Tryd.underlying51]
    refine DataW.weights_mem_each (j := 1) (t := 9) (d := .lit (.string s.data.toList)) rfl rfl _ ?_
    simp only [DataW.weights, List.mem_singleton]
    rw [Array.length_toList]; rfl
  have := List.all_eq_true.1 h _ (DataW.weights_mem_each ht hd _ key)
  have h2 := reachBytes_lt
  simp only [decide_eq_true_eq] at this
  omega
/-- The zero decimal. -/
def zeroDec : Value := .agg #[.bool false, .string ⟨#[]⟩, .int .i64 0]

set_option maxRecDepth 100000 in
theorem contract (H : Type) (enc : TypeId × Value → H) (W : World) (base : Nat) (args : Array Value) (ds gs : List (DataW H)) (before : List MemPlace)
    (hval : ∀ (j : Nat) t v, Tryd.f9.params[j]? = some t → args[j]? = some v → Value.okWide Tryd.prog W .any base t v)
    (hW : DataW.Whole enc Tryd.prog Tryd.f9.params.toList Rows.numPatWholeSpec.vars false W args.toList ds gs before)
    (hz : (DataW.weightsEach Tryd.prog (Tryd.f9.params.toList ++ (OpenSpec.ofChange Rows.numPatWholeSpec).bare.plain.varTypes Tryd.prog) (ds ++ gs)).all (· ≤ reachBytes) = true)
    (hL : laidMetH Tryd.prog Rows.numPatWholeRow.laid W) :
    Calls Tryd.prog 9 args W fun e W' => ∃ v, e = .returned v ∧ Rows.numPatWholeSpec.post enc Tryd.prog Tryd.f9 false true false false W args v W' := by
  have hW' := hW
  obtain ⟨p, q, hA0, hV, rfl, hfz, hnd⟩ := hW
  have hA : DataW.TrodAll enc Tryd.prog W 0 (fun _ => true) true Tryd.f9.params.toList args.toList ds p := hA0
  have hA1 := hA
  rw [Tryd.params9] at hA hval hz
  obtain ⟨v0, vs0, d0, ds0, p0, q0, hargs, rfl, rfl, h0, r0⟩ := trodAll_cons hA
  obtain ⟨v1, vs1, d1, ds1, p1, q1, hargs1, rfl, rfl, h1, r1⟩ := trodAll_cons r0
  obtain ⟨rfl, rfl, rfl⟩ := trodAll_nil r1
  obtain rfl : args = #[v0, v1] := by cases args; simp_all
  obtain ⟨rfl, rfl⟩ := trodVars_none hV
  have hlt := fun x hx => hW'.lt x hx
  have g0 := h0
  have g1 := h1
  obtain ⟨A1, A2, A3, A4, n1, n2, n3, n4, k1, k2, k3, k4, pt, e1, e2, e3, e4, rfl, hp, rfl, s1, s2, s3, s4, z1, z2, z3, z4⟩ := open_pat (hval 0 25 v0 rfl rfl) h0
  have hsz : TxtSz pt := pat_sz hz (j := 0) rfl rfl s1 s2 s3 s4
  obtain ⟨neg, s, sc, rfl, rfl⟩ := open_dec (hval 1 51 v1 rfl rfl) h1
  have hs : s.size ≤ 9223372036854775800 := dec_sz hz (j := 1) rfl rfl
  refine (law_whole W (env_of hL) A1 A2 A3 A4 n1 n2 n3 n4 k1 k2 k3 k4 pt neg s sc hp hsz hs).mono fun e W' ⟨he, hk⟩ => ?_
  subst he
  have hb := hk.toBelow
  have t0 := hb.trod laidOut (by kernel_rfl) (of_decide_eq_true (by kernel_rfl)) g0 (fun x hx => hlt x (by simp [hx]))
  have t1 := hb.trod laidOut (by kernel_rfl) (of_decide_eq_true (by kernel_rfl)) g1 (fun x hx => hlt x (by simp [hx]))
  exact ⟨_, rfl, _, _, _, [], _, [], hW', trodAll_cons_mk (shut_bool Tryd.underlying4 _) trodAll_mk0, trodAll_cons_mk t0 (trodAll_cons_mk t1 trodAll_mk0), rfl, hb.frame _, fun h => by cases h⟩

theorem reads (os : Os) {H : Type} (enc : TypeId × Value → H) : ∃ places, DataW.whole enc Tryd.prog ((laidWorld os).forCall (fun _ _ => 0) ⟨#[], #[zeroPat, zeroDec], []⟩).memory Tryd.f9.params.toList Rows.numPatWholeSpec.vars false #[zeroPat, zeroDec].toList 8 = some ([zeroD, decD false ⟨#[]⟩ 0], [], places) :=
  ⟨[], by kernel_rfl⟩

set_option maxRecDepth 100000 in
theorem lifted (os : Os) (started : os.Started) (H : Type) (enc : TypeId × Value → H) (F : Stop.Interp) :
    ReturnsInHanded {} Tryd.checked os 9 .any ((OpenSpec.ofChange Rows.numPatWholeSpec).preRow enc Tryd.prog Tryd.f9 Rows.numPatWholeRow.domain false Rows.numPatWholeRow.laid) (((OpenSpec.ofChange Rows.numPatWholeSpec).at F).post enc Tryd.prog Tryd.f9 false true false false) := by
  obtain ⟨places, hx⟩ := reads os enc
  refine returnsInHanded_of_row (C := Tryd.checked) (s := OpenSpec.ofChange Rows.numPatWholeSpec) own started (by kernel_rfl) Tryd.func9
    (witness_row_at (enc := enc) (C := Tryd.checked) false (laidWorld os) #[zeroPat, zeroDec] rfl (by kernel_rfl) (by kernel_rfl) (by kernel_rfl)
      (OpenSpec.preRow_of_cond 8 hx (by kernel_rfl) (fun k hk => by cases hk) (by kernel_rfl) (laid_met os _))) ?_
  intro W base args ds gs before hval hW _ _ hz hL _ _
  exact contract H enc W base args ds gs before hval hW hz hL

theorem said : Rows.NumPatWholeSaid :=
  OpenClaim.holds_of_cond 9 Tryd.f9 rfl rfl rfl rfl rfl rfl rfl ⟨rfl, rfl, rfl, rfl, rfl⟩ rfl rfl rfl rfl rfl (by kernel_rfl) Tryd.func9 (by kernel_rfl)
    (of_decide_eq_true (by kernel_rfl)) (by unfold Func.isWrapper; first | (rw [if_pos (by decide +kernel)]; kernel_rfl) | (rw [if_neg (by decide +kernel)]; exact ⟨rfl, rfl⟩))
    (fun os started H enc _ F => by rw [OpenClaim.pre_eq_preRow]; exact lifted os started H enc F)
theorem plain (f : FuncId) (fn : Func) (hf : Tryd.pinned.checked.prog.funcNamed "vernacular/vernacularlaw16.NumPatWhole" = some f) (hfn : Tryd.pinned.checked.prog.funcs[f]? = some fn) :
    false = Tryd.pinned.checked.prog.looks [] ∧ ∀ (j : Nat) t, fn.params[j]? = some t → Tryd.pinned.checked.prog.wantsStandIn t = false := by
  obtain rfl : f = 9 := Option.some.inj ((show Tryd.prog.funcNamed "vernacular/vernacularlaw16.NumPatWhole" = some 9 by kernel_rfl).symm.trans hf) |>.symm
  obtain rfl : fn = Tryd.f9 := (Option.some.inj (Tryd.func9.symm.trans hfn)).symm
  refine ⟨by kernel_rfl, fun j t ht => ?_⟩
  rw [Tryd.params9] at ht
  have hm := Array.mem_of_getElem? ht
  have hm2 : t = 25 ∨ t = 51 := by simpa using hm
  rcases hm2 with rfl | rfl
  · exact (show Tryd.prog.wantsStandIn 25 = false by kernel_rfl)
  · exact (show Tryd.prog.wantsStandIn 51 = false by kernel_rfl)
theorem card : Rows.NumPatWholeCardSaid :=
  Claim7.holds_tied_plain_at .later [] _ _ _ _ said (fun _ h => by cases h) (by kernel_rfl) (fun _ h => by cases h) numPatWhole_row_tie rfl ⟨rfl, rfl⟩ (by kernel_rfl) rfl plain (by kernel_rfl)
end Go.Proofs.YtkkglaglnfebjaaDoor.whole
