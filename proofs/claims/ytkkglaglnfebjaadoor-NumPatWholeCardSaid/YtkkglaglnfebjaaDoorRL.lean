/- A region that draws its order and whose number n comes last: what S says holds until n. No program. -/
import Derived.OrdersHeld
import Derived.Deep.RegionHeld3
import Derived.Test.YtkkglaglnfebjaaDoorBase
namespace Go.Proofs.YtkkglaglnfebjaaDoor
open Go.RowKit

section
variable {P : Program} {ops : Array Oper} {Q : Exit → Act → World → Prop} {md : Region.Mode} {S : World → Prop}

/-- What a listed one waits for is listed. -/
def Clo (md : Region.Mode) (ops : Array Oper) (listed : Array Bool) : Prop :=
  ∀ j o, ops[j]? = some o → listed.getD j false = true → ∀ e ∈ o.after, Region.binds md e = true → listed.getD e.on false = true
def cloB (md : Region.Mode) (ops : Array Oper) (listed : Array Bool) : Bool :=
  (List.range ops.size).all fun j => !listed.getD j false || ((ops[j]?).map fun o => o.after.all fun e => !Region.binds md e || listed.getD e.on false).getD true
def edgeB (md : Region.Mode) (ops : Array Oper) (i j : Nat) : Bool := ((ops[j]?).map fun o => o.after.any fun e => Region.binds md e && e.on == i).getD false
/-- A way of waiting, from i over these to n. -/
def leadsB (md : Region.Mode) (ops : Array Oper) : Nat → List Nat → Nat → Bool
  | i, [], n => edgeB md ops i n
  | i, j :: r, n => edgeB md ops i j && leadsB md ops j r n
theorem cloB_spec {listed : Array Bool} (h : cloB md ops listed = true) : Clo md ops listed := by
  intro j o ho hl e he hb
  unfold cloB at h
  rw [List.all_eq_true] at h
  have h1 := h j (List.mem_range.2 (Array.getElem?_eq_some_iff.1 ho).1)
  rw [hl, ho] at h1
  simp only [Bool.not_true, Bool.false_or, Option.map_some, Option.getD_some] at h1
  rw [Array.all_eq_true_iff_forall_mem] at h1
  have h2 := h1 e he
  rw [hb] at h2
  simpa using h2
theorem edgeB_spec {i j : Nat} (h : edgeB md ops i j = true) : ∃ o, ops[j]? = some o ∧ ∃ e ∈ o.after, Region.binds md e = true ∧ e.on = i := by
  unfold edgeB at h
  cases ho : ops[j]? with
  | none => rw [ho] at h; simp at h
  | some o =>
    rw [ho] at h
    simp only [Option.map_some, Option.getD_some] at h
    rw [Array.any_eq_true'] at h
    obtain ⟨e, he, h2⟩ := h
    simp only [Bool.and_eq_true, beq_iff_eq] at h2
    exact ⟨o, rfl, e, he, h2.1, h2.2⟩
theorem leads_listed {listed : Array Bool} {n : Nat} (hc : Clo md ops listed) (hn : n ∈ Region.ready md ops listed) : ∀ (l : List Nat) (i : Nat), leadsB md ops i l n = true → listed.getD i false = true
  | [], i, h => by
    obtain ⟨o, ho, e, he, hb, rfl⟩ := edgeB_spec h
    obtain ⟨_, o', ho', hall⟩ := mem_ready.1 hn
    obtain rfl : o = o' := Option.some.inj (ho.symm.trans ho')
    exact hall e he hb
  | j :: r, i, h => by
    simp only [leadsB, Bool.and_eq_true] at h
    have hj := leads_listed hc hn r j h.2
    obtain ⟨o, ho, e, he, hb, rfl⟩ := edgeB_spec h.1
    exact hc j o ho hj e he hb
theorem Clo.step {listed : Array Bool} {j : Nat} (hc : Clo md ops listed) (hj : j ∈ Region.ready md ops listed) : Clo md ops (listed.setIfInBounds j true) := by
  intro k o ho hl e he hb
  refine getD_set_true ?_
  by_cases hk : j = k
  · subst hk
    obtain ⟨_, o', ho', hall⟩ := mem_ready.1 hj
    obtain rfl : o = o' := Option.some.inj (ho.symm.trans ho')
    exact hall e he hb
  · rw [getD_set_ne false hk] at hl
    exact hc k o ho hl e he hb

/-- Whatever order is picked from here on, and S holds behind each operation but number n. -/
def anyU (P : Program) (md : Region.Mode) (ops : Array Oper) (Q : Exit → Act → World → Prop) (S : World → Prop) (n : Nat) : Nat → Array Bool → Act → World → Prop
  | 0, listed, a, w => Region.ready md ops listed = [] ∧ Q .normal a w
  | fuel + 1, listed, a, w =>
    (Region.ready md ops listed = [] → Q .normal a w) ∧
    ∀ i ∈ Region.ready md ops listed, wpOp P ops Q i (fun a' w' => (i ≠ n → S w') ∧ anyU P md ops Q S n fuel (listed.setIfInBounds i true) a' w') a w
theorem wpAny_of_U {n : Nat} : ∀ (fuel : Nat) (listed : Array Bool) (a : Act) (w : World), anyU P md ops Q S n fuel listed a w → wpAny P md ops Q fuel listed a w
  | 0, _, _, _, h => h
  | fuel + 1, _, _, _, h => ⟨h.1, fun i hi => wpOp_mono (fun _ _ h' => wpAny_of_U fuel _ _ _ h'.2) (h.2 i hi)⟩
theorem anyU_first {n i : Nat} {oi : Oper} {v : Value} (hi : ops[i]? = some oi) (hsel : ∀ (j : Nat) (o : Oper) cs b, ops[j]? = some o → o.op ≠ .select cs b)
    (hQ : ∀ c a w, Q (.panic c) (a.put oi.dst v) w → Q (.panic c) a w) (l : List Nat) (hl : leadsB md ops i l n = true) :
    ∀ (fuel : Nat) (listed : Array Bool) (a : Act) (w : World),
      (∀ j oj, ops[j]? = some oj → j ≠ i → listed.getD j true = false → (∀ e ∈ oj.after, Region.binds md e = true → e.on ≠ i) → oi.apart ops oj = true) →
      i ∈ Region.ready md ops listed → Clo md ops listed → YieldsIf P ops S oi v a → S w →
      anyU P md ops Q S n fuel (listed.setIfInBounds i true) (a.put oi.dst v) w → anyU P md ops Q S n (fuel + 1) listed a w := by
  intro fuel
  induction fuel with
  | zero =>
    intro listed a w _ hr _ hy hS H
    refine ⟨fun h => absurd (h ▸ hr) List.not_mem_nil, fun j hj => ?_⟩
    by_cases hji : j = i
    · subst hji
      exact hy.wpOp hi hS ⟨fun _ => hS, H⟩
    · exact absurd (H.1 ▸ ready_mono hj hji) List.not_mem_nil
  | succ fuel ih =>
    intro listed a w hfree hr hc hy hS H
    refine ⟨fun h => absurd (h ▸ hr) List.not_mem_nil, fun j hj => ?_⟩
    by_cases hji : j = i
    · subst hji
      exact hy.wpOp hi hS ⟨fun _ => hS, H⟩
    · have hil := (mem_ready.1 hr).1
      have hin : i < listed.size := by
        rcases Nat.lt_or_ge i listed.size with h | h
        · exact h
        · simp [Array.getElem?_eq_none h] at hil
      have hif : listed.getD i false = false := by
        simp [Array.getElem?_eq_getElem hin] at hil ⊢
        exact hil
      have hjn : j ≠ n := by
        rintro rfl
        rw [leads_listed hc hj l i hl] at hif
        cases hif
      obtain ⟨hjun, oj, hoj, hall⟩ := mem_ready.1 hj
      have hnot : ∀ e ∈ oj.after, Region.binds md e = true → e.on ≠ i := fun e he hb heq => by
        have h1 := hall e he hb
        rw [heq, hif] at h1
        cases h1
      have h2 := wpOp_putIf hoj (hfree j oj hoj hji hjun hnot) (fun cs b => hsel i oi cs b hi) (fun cs b => hsel j oj cs b hoj) hQ hy (H.2 j (ready_mono hj hji))
      have hfree' : ∀ k ok, ops[k]? = some ok → k ≠ i → (listed.setIfInBounds j true).getD k true = false →
          (∀ e ∈ ok.after, Region.binds md e = true → e.on ≠ i) → oi.apart ops ok = true := fun k ok hk hki hun hno => by
        refine hfree k ok hk hki ?_ hno
        by_cases hjk : j = k
        · subst hjk; exact hjun
        · rwa [getD_set_ne true hjk] at hun
      refine wpOp_mono (fun a' w' h3 => ⟨h3.2.1, ih (listed.setIfInBounds j true) a' w' hfree' (ready_mono hr (Ne.symm hji)) (hc.step hj) h3.1 (h3.2.1 hjn) ?_⟩) h2
      rw [Array.setIfInBounds_comm _ _ hji]
      exact h3.2.2
/-- Take number i first. -/
theorem anyU_take {n i : Nat} {oi : Oper} {v : Value} {fuel : Nat} {listed : Array Bool} {a : Act} {w : World} (l : List Nat) (hi : ops[i]? = some oi)
    (hs : Region.noSelect ops = true) (hf : Region.free md ops listed i = true) (hr : (Region.ready md ops listed).contains i = true)
    (hQ : ∀ c a w, Q (.panic c) (a.put oi.dst v) w → Q (.panic c) a w) (hl : leadsB md ops i l n = true) (hc : cloB md ops listed = true) (hS : S w) (hy : YieldsIf P ops S oi v a)
    (h : anyU P md ops Q S n fuel (listed.setIfInBounds i true) (a.put oi.dst v) w) : anyU P md ops Q S n (fuel + 1) listed a w :=
  anyU_first hi (Region.noSelect_spec hs) hQ l hl fuel listed a w (Region.free_spec hi hf) (by simpa using hr) (cloB_spec hc) hy hS h
theorem anyU_all {n : Nat} {rs : List Nat} {fuel : Nat} {listed : Array Bool} {a : Act} {w : World} (hr : Region.ready md ops listed = rs) (hne : rs ≠ [])
    (h : ∀ i ∈ rs, wpOp P ops Q i (fun a' w' => (i ≠ n → S w') ∧ anyU P md ops Q S n fuel (listed.setIfInBounds i true) a' w') a w) : anyU P md ops Q S n (fuel + 1) listed a w :=
  ⟨fun h0 => absurd (hr ▸ h0) hne, hr ▸ h⟩
theorem anyU_one {n i : Nat} {oi : Oper} {fuel : Nat} {listed : Array Bool} {a : Act} {w : World} (hr : Region.ready md ops listed = [i]) (hi : ops[i]? = some oi) (hg : oi.guard = none)
    (h : ∀ K : Act → World → Prop, Hid (∀ a' w', (i ≠ n → S w') → anyU P md ops Q S n fuel (listed.setIfInBounds i true) a' w' → K a' w') → oi.wp P a w K Q) : anyU P md ops Q S n (fuel + 1) listed a w := by
  refine anyU_all hr (by simp) fun j hj => ?_
  obtain rfl : j = i := by simpa using hj
  unfold wpOp
  have hw : Region.wanted oi (yielded ops a.tmps) = true := by simp [Region.wanted, hg]
  simp only [hi, hw, if_true]
  exact .inl (h _ (Lib.hid fun _ _ h1 h2 => ⟨h1, h2⟩))
theorem anyU_two {n i j : Nat} {oi oj : Oper} {fuel : Nat} {listed : Array Bool} {a : Act} {w : World} (hr : Region.ready md ops listed = [i, j]) (hi : ops[i]? = some oi) (hgi : oi.guard = none) (hj : ops[j]? = some oj) (hgj : oj.guard = none)
    (h1 : ∀ K : Act → World → Prop, Hid (∀ a' w', (i ≠ n → S w') → anyU P md ops Q S n fuel (listed.setIfInBounds i true) a' w' → K a' w') → oi.wp P a w K Q)
    (h2 : ∀ K : Act → World → Prop, Hid (∀ a' w', (j ≠ n → S w') → anyU P md ops Q S n fuel (listed.setIfInBounds j true) a' w' → K a' w') → oj.wp P a w K Q) : anyU P md ops Q S n (fuel + 1) listed a w := by
  refine anyU_all hr (by simp) fun k hk => ?_
  have hw : ∀ o : Oper, o.guard = none → Region.wanted o (yielded ops a.tmps) = true := fun o hg => by simp [Region.wanted, hg]
  have hk2 : k = i ∨ k = j := by simpa using hk
  rcases hk2 with rfl | rfl
  · unfold wpOp
    simp only [hi, hw _ hgi, if_true]
    exact .inl (h1 _ (Lib.hid fun _ _ h1 h2 => ⟨h1, h2⟩))
  · unfold wpOp
    simp only [hj, hw _ hgj, if_true]
    exact .inl (h2 _ (Lib.hid fun _ _ h1 h2 => ⟨h1, h2⟩))
theorem anyU_done {n : Nat} {listed : Array Bool} {a : Act} {w : World} (hr : Region.ready md ops listed = []) (h : Q .normal a w) : ∀ fuel, anyU P md ops Q S n fuel listed a w
  | 0 => ⟨hr, h⟩
  | _ + 1 => ⟨fun _ => h, by rw [hr]; simp⟩
theorem wp_region_U {id : Nat} {a : Act} {w : World} (S : World → Prop) (n : Nat) (hm : P.follows .mixedOrders = true)
    (h : anyU P .any ops Q S n ops.size (Array.replicate ops.size false) a w.drew) : (Code.region id ops true).wp P Q a w :=
  wp_region_any hm (wpAny_of_U _ _ _ _ h)
end
end Go.Proofs.YtkkglaglnfebjaaDoor
