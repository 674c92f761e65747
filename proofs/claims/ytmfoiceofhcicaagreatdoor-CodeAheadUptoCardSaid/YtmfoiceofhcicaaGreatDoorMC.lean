/- Walks: slices.ContainsFunc over cases, at the reader's two closures. -/
import Derived.Test.YtmfoiceofhcicaaGreatDoorMU
namespace Go.Proofs.YtmfoiceofhcicaaGreatDoor
open Go.RowKit

theorem bytes_inj {s t : ByteArray} (h : s.toList = t.toList) : s = t := by
  rw [ByteArray.toList_eq, ByteArray.toList_eq] at h
  cases s with
  | mk a => cases t with
    | mk b => cases a; cases b; simp at h; subst h; rfl
theorem bytes_beq (s t : ByteArray) : (s.toList == t.toList) = decide (s = t) := by
  by_cases h : s = t
  · subst h; simp
  · rw [decide_eq_false h]
    exact beq_eq_false_iff_ne.2 fun hc => h (bytes_inj hc)
theorem ends_bool {a b : Bool} (h : a = b) : Ending.returned (.bool a) = .returned (.bool b) := by rw [h]
/-- The first place of a key that a test takes, from k on; -1: none. -/
def findK (c : ByteArray → Bool) : List ByteArray → Nat → Int
  | [], _ => -1
  | x :: l, k => if c x then (k : Int) else findK c l (k + 1)
theorem findK_nonneg (c : ByteArray → Bool) : ∀ (l : List ByteArray) (k : Nat), decide (0 ≤ findK c l k) = l.any c
  | [], _ => rfl
  | x :: l, k => by
    unfold findK
    rw [List.any_cons]
    split
    · rename_i h; rw [h]; simp
    · rename_i h; rw [findK_nonneg c l (k + 1)]; simp [h]
set_option maxRecDepth 100000 in
set_option maxHeartbeats 1000000 in
theorem idxCase_any (K : FuncId) (cap : Array Value) (c : ByteArray → Bool) (hK : ∀ args w, (callFunc K args).run Tryz.prog w = .ok (.enter K args) w) (S : Nat → Prop) (v : Value) (cs : List CT) (us : List Value) (hu : us.length = cs.length) (w : World)
    (hc : ∀ k pv W, Below w.heap.size w W → Calls Tryz.prog K (#[.agg #[.string k, pv]] ++ cap) W fun e w' => e = .returned (.bool (c k)) ∧ Below W.heap.size W w')
    (hr : RdC S w v cs.length (caseC cs us)) (hl : cs.length ≤ 1000000000) :
    Calls Tryz.prog 102 #[v, .func (.func K) #[] cap] w fun e w' => e = .returned (.int .i64 (findK c (cs.map Prod.fst) 0)) ∧ Below w.heap.size w w' := by
  obtain ⟨A, cp, rfl, h1, h2, h3⟩ := hr
  have H3 := Lib.hid h3
  have HC := Lib.hid hc
  have HU := Lib.hid hu
  obtain ⟨m, hm⟩ : ∃ m, cs.length = m := ⟨_, rfl⟩
  rw [hm] at h1 hl ⊢
  have HM := Lib.hid hm
  clear h3 hc hu hm
  go_enter Tryz.func102, Tryz.ntmps102
  go_wp2
  go_loopg [8] m (fun gk s8 wx => ∃ i : Nat, i + gk = m ∧ s8 = .int .i64 i ∧ Below w.heap.size w wx ∧ findK c ((cs.map Prod.fst).drop i) i = findK c (cs.map Prod.fst) 0)
  case atStart => exact ⟨0, by omega, rfl, Below.refl _ _, rfl⟩
  case round =>
    obtain ⟨i, hig, rfl, hb, hf⟩ := hrel
    have HB := Lib.hid hb
    have HF := Lib.hid hf
    clear hb hf
    cases gk with
    | zero =>
      obtain rfl : i = m := by omega
      have HR : Hid (findK c (cs.map Prod.fst) 0 = -1) := by
        have := HF.out
        rw [List.drop_eq_nil_of_le (by simp [HM.out])] at this
        exact this.symm
      go_wp2
      go_ret
      exact ⟨by rw [HR.out]; rfl, HB.out⟩
    | succ gk =>
      have hi : i < m := by omega
      have hin : i < cs.length := by rw [HM.out]; exact hi
      obtain ⟨b, o, rfl, _, hbl, hcell⟩ := H3.out (by omega)
      have hx := caseC_at cs us i cs[i] (us[i]'(by rw [HU.out]; exact hin)) (by simp [hin]) (by simp [HU.out, hin])
      have g0 := (HB.out.cell (p := ⟨b, o + i * 2, none⟩) hbl).trans (hcell _ _ hx.1)
      have g1 := (HB.out.cell (p := ⟨b, o + i * 2 + 1, none⟩) hbl).trans (hcell _ _ hx.2)
      have HF2 : Hid (findK c (cs.map Prod.fst) 0 = if c (cs[i]).1 then (i : Int) else findK c ((cs.map Prod.fst).drop (i + 1)) (i + 1)) := by
        have := HF.out
        rw [List.drop_eq_getElem_cons (by simpa using hin)] at this
        unfold Hid
        rw [← this]
        simp only [findK, List.getElem_map]
      clear hcell hx
      generalize (cs[i]).1 = kk at *
      generalize us[i]'_ = pv at *
      cases hck : c kk with
      | true =>
        have HX := Lib.hid (HC.out kk pv wr HB.out)
        rw [hck] at HX HF2
        have HF3 : Hid (findK c (cs.map Prod.fst) 0 = (i : Int)) := HF2.out
        clear hck HF2
        go_wp2_with (go_at_fn K; refine HX.out.mono ?_; rintro e w' ⟨rfl, hb⟩)
        go_ret
        exact ⟨by rw [HF3.out]; rfl, HB.out.trans (hb.mono HB.out.size)⟩
      | false =>
        have HX := Lib.hid (HC.out kk pv wr HB.out)
        rw [hck] at HX HF2
        have HF3 : Hid (findK c (cs.map Prod.fst) 0 = findK c ((cs.map Prod.fst).drop (i + 1)) (i + 1)) := HF2.out
        clear hck HF2
        go_wp2_with (go_at_fn K; refine HX.out.mono ?_; rintro e w' ⟨rfl, hb⟩)
        go_roundg gk
        case measure => omega
        case rel => exact ⟨i + 1, by omega, by go_num, HB.out.trans (hb.mono HB.out.size), HF3.out.symm⟩
set_option maxRecDepth 100000 in
set_option maxHeartbeats 400000 in
theorem hasCase_any (K : FuncId) (cap : Array Value) (c : ByteArray → Bool) (hK : ∀ args w, (callFunc K args).run Tryz.prog w = .ok (.enter K args) w) (S : Nat → Prop) (v : Value) (cs : List CT) (us : List Value) (hu : us.length = cs.length) (w : World)
    (hc : ∀ k pv W, Below w.heap.size w W → Calls Tryz.prog K (#[.agg #[.string k, pv]] ++ cap) W fun e w' => e = .returned (.bool (c k)) ∧ Below W.heap.size W w')
    (hr : RdC S w v cs.length (caseC cs us)) (hl : cs.length ≤ 1000000000) :
    Calls Tryz.prog 81 #[v, .func (.func K) #[] cap] w fun e w' => e = .returned (.bool ((cs.map Prod.fst).any c)) ∧ Below w.heap.size w w' := by
  have HI := Lib.hid (idxCase_any K cap c hK S v cs us hu w hc hr hl)
  have HF := Lib.hid (findK_nonneg c (cs.map Prod.fst) 0)
  clear hc hr hK
  go_enter Tryz.func81, Tryz.ntmps81
  go_wp2_with (go_at_call 102; refine HI.out.mono ?_; rintro e w' ⟨rfl, hb⟩)
  go_ret
  exact ⟨ends_bool HF.out, hb⟩
end Go.Proofs.YtmfoiceofhcicaaGreatDoor
