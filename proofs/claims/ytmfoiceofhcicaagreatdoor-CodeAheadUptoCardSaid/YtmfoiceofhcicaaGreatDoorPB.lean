/- Walks over trees of parts: how an element reads; size, cases, Depth. -/
import Derived.Test.YtmfoiceofhcicaaGreatDoorMM
import Derived.Test.YtmfoiceofhcicaaGreatDoorPL
namespace Go.Proofs.YtmfoiceofhcicaaGreatDoor
open Go.RowKit

/-- A part's cells at a place. -/
def PAt (w : World) (b o : Nat) (p : PT) (cv : Value) : Prop := w.cell? ⟨b, o, none⟩ = some (.int .i64 p.k) ∧ w.cell? ⟨b, o + 1, none⟩ = some (.string p.tx) ∧ w.cell? ⟨b, o + 2, none⟩ = some (.string p.nm) ∧ w.cell? ⟨b, o + 3, none⟩ = some (.string p.ty) ∧
  w.cell? ⟨b, o + 4, none⟩ = some (.string p.st) ∧ w.cell? ⟨b, o + 5, none⟩ = some (.int .i64 p.off) ∧ w.cell? ⟨b, o + 6, none⟩ = some cv
theorem lies_open {n : Nat} {S : Nat → Prop} {w : World} {v : Value} {l : List PT} (h : Lies (n + 1) S w v l) :
    ∃ A cap, v = .slice A l.length cap ∧ l.length ≤ maxLen ∧ ∀ (i : Nat) (p : PT), l[i]? = some p → ∃ b o cv, A = some ⟨b, o, none⟩ ∧ b < w.heap.size ∧ PAt w b (o + i * 7) p cv ∧ LiesC n S w cv p.cs := by
  obtain ⟨vs, hvl, ⟨A, cap, rfl, h1, h2, h3⟩, hc⟩ := h
  refine ⟨A, cap, rfl, by omega, fun i p hp => ?_⟩
  have hi := (List.getElem?_eq_some_iff.1 hp).1
  obtain ⟨b, o, rfl, _, hb, hcells⟩ := h3 (by omega)
  obtain ⟨cv, hcv⟩ : ∃ cv, vs[i]? = some cv := ⟨_, List.getElem?_eq_getElem (by omega)⟩
  have hp2 := partC_at l vs i p cv hp hcv
  refine ⟨b, o, cv, rfl, hb, ⟨?_, ?_, ?_, ?_, ?_, ?_, ?_⟩, hc i p cv hp hcv⟩
  · have := hcells (i * 7) _ (by have := hp2 0 (by omega); simpa [PT.cells] using this); exact this
  · have := hcells (i * 7 + 1) _ (by have := hp2 1 (by omega); simpa [PT.cells] using this); rw [Nat.add_assoc]; exact this
  · have := hcells (i * 7 + 2) _ (by have := hp2 2 (by omega); simpa [PT.cells] using this); rw [Nat.add_assoc]; exact this
  · have := hcells (i * 7 + 3) _ (by have := hp2 3 (by omega); simpa [PT.cells] using this); rw [Nat.add_assoc]; exact this
  · have := hcells (i * 7 + 4) _ (by have := hp2 4 (by omega); simpa [PT.cells] using this); rw [Nat.add_assoc]; exact this
  · have := hcells (i * 7 + 5) _ (by have := hp2 5 (by omega); simpa [PT.cells] using this); rw [Nat.add_assoc]; exact this
  · have := hcells (i * 7 + 6) _ (by have := hp2 6 (by omega); simpa [PT.cells] using this); rw [Nat.add_assoc]; exact this
theorem liesC_open {n : Nat} {S : Nat → Prop} {w : World} {v : Value} {cs : List CT} (h : LiesC n S w v cs) :
    ∃ A cap, v = .slice A cs.length cap ∧ cs.length ≤ maxLen ∧ ∀ (i : Nat) (c : CT), cs[i]? = some c → ∃ b o pv, A = some ⟨b, o, none⟩ ∧ b < w.heap.size ∧ w.cell? ⟨b, o + i * 2, none⟩ = some (.string c.1) ∧ w.cell? ⟨b, o + i * 2 + 1, none⟩ = some pv ∧ Lies n S w pv c.2 := by
  obtain ⟨us, hul, ⟨A, cap, rfl, h1, h2, h3⟩, hc⟩ := h
  refine ⟨A, cap, rfl, by omega, fun i c hp => ?_⟩
  have hi := (List.getElem?_eq_some_iff.1 hp).1
  obtain ⟨b, o, rfl, _, hb, hcells⟩ := h3 (by omega)
  obtain ⟨pv, hpv⟩ : ∃ pv, us[i]? = some pv := ⟨_, List.getElem?_eq_getElem (by omega)⟩
  obtain ⟨e1, e2⟩ := caseC_at cs us i c pv hp hpv
  exact ⟨b, o, pv, rfl, hb, hcells _ _ e1, by rw [Nat.add_assoc]; exact hcells _ _ e2, hc i c pv hp hpv⟩
theorem PAt.keep {w w' : World} {b o : Nat} {p : PT} {cv : Value} (h : PAt w b o p cv) (hk : Keep [] w w') (hb : b < w.heap.size) : PAt w' b o p cv :=
  ⟨(hk.cell hb (by simp)).trans h.1, (hk.cell hb (by simp)).trans h.2.1, (hk.cell hb (by simp)).trans h.2.2.1, (hk.cell hb (by simp)).trans h.2.2.2.1, (hk.cell hb (by simp)).trans h.2.2.2.2.1, (hk.cell hb (by simp)).trans h.2.2.2.2.2.1, (hk.cell hb (by simp)).trans h.2.2.2.2.2.2⟩
theorem LiesC.formL {n : Nat} {S : Nat → Prop} {w : World} {v : Value} {cs : List CT} (h : LiesC n S w v cs) : ∃ A cap, v = .slice A cs.length cap := by
  obtain ⟨_, _, ⟨A, c, rfl, _⟩, _⟩ := h
  exact ⟨_, _, rfl⟩

/-- How much there is in a tree, in all. -/
def bulkC (K : List PT → Nat) : List CT → Nat
  | [] => 0
  | c :: cs => 1 + c.1.size + K c.2 + bulkC K cs
def bulkL (K : List PT → Nat) : List PT → Nat
  | [] => 0
  | p :: l => 1 + p.tx.size + p.nm.size + p.ty.size + p.st.size + bulkC K p.cs + bulkL K l
def bulkF : Nat → List PT → Nat
  | 0, _ => 0
  | n + 1, l => bulkL (bulkF n) l
theorem bulkC_at (K : List PT → Nat) : ∀ (cs : List CT) (i : Nat) (c : CT), cs[i]? = some c → 1 + c.1.size + K c.2 ≤ bulkC K cs
  | c :: cs, 0, d, h => by simp at h; subst h; simp only [bulkC]; omega
  | c :: cs, i + 1, d, h => by have := bulkC_at K cs i d (by simpa using h); simp only [bulkC]; omega
theorem bulkL_at (K : List PT → Nat) : ∀ (l : List PT) (i : Nat) (p : PT), l[i]? = some p → 1 + p.tx.size + p.nm.size + p.ty.size + p.st.size + bulkC K p.cs ≤ bulkL K l
  | c :: cs, 0, d, h => by simp at h; subst h; simp only [bulkL]; omega
  | c :: cs, i + 1, d, h => by have := bulkL_at K cs i d (by simpa using h); simp only [bulkL]; omega
theorem bulkC_len (K : List PT → Nat) : ∀ (cs : List CT), cs.length ≤ bulkC K cs
  | [] => Nat.le_refl _
  | c :: cs => by have := bulkC_len K cs; simp only [bulkC, List.length_cons]; omega
theorem bulkL_len (K : List PT → Nat) : ∀ (l : List PT), l.length ≤ bulkL K l
  | [] => Nat.le_refl _
  | c :: cs => by have := bulkL_len K cs; simp only [bulkL, List.length_cons]; omega
theorem take_snoc' {α : Type} {l : List α} {i : Nat} {a : α} (h : l[i]? = some a) : l.take (i + 1) = l.take i ++ [a] := by
  rw [List.take_add_one, h]; rfl
theorem sumC_append (S : List PT → Nat) : ∀ (a b : List CT), sumC S (a ++ b) = sumC S a + sumC S b
  | [], b => by simp [sumC]
  | c :: a, b => by simp only [List.cons_append, sumC, sumC_append S a b]; omega
theorem sumL_append (S : List PT → Nat) : ∀ (a b : List PT), sumL S (a ++ b) = sumL S a + sumL S b
  | [], b => by simp [sumL]
  | c :: a, b => by simp only [List.cons_append, sumL, sumL_append S a b]; omega
theorem sumC_le {S K : List PT → Nat} (hs : ∀ l, S l ≤ K l) : ∀ (cs : List CT), sumC S cs + cs.length ≤ bulkC K cs
  | [] => Nat.le_refl _
  | c :: cs => by have := sumC_le hs cs; have := hs c.2; simp only [sumC, bulkC, List.length_cons]; omega
theorem sumL_le {S K : List PT → Nat} (hs : ∀ l, S l ≤ K l) : ∀ (l : List PT), sumL S l + l.length ≤ bulkL K l
  | [] => Nat.le_refl _
  | p :: l => by have := sumL_le hs l; have := sumC_le hs p.cs; simp only [sumL, bulkL, List.length_cons]; omega
theorem size_le : ∀ (n : Nat) (l : List PT), sizeF n l ≤ bulkF n l
  | 0, _ => Nat.le_refl _
  | n + 1, l => by have := sumL_le (size_le n) l; simp only [sizeF, bulkF]; omega
theorem sumC_take (S : List PT → Nat) (cs : List CT) (k : Nat) : sumC S (cs.take k) ≤ sumC S cs := by
  have := sumC_append S (cs.take k) (cs.drop k)
  rw [List.take_append_drop] at this; omega
theorem sumL_take (S : List PT → Nat) (l : List PT) (k : Nat) : sumL S (l.take k) ≤ sumL S l := by
  have := sumL_append S (l.take k) (l.drop k)
  rw [List.take_append_drop] at this; omega

set_option maxRecDepth 100000 in
set_option maxHeartbeats 4000000 in
/-- size. -/
theorem size_any : ∀ (n : Nat) (l : List PT) (S : Nat → Prop) (v : Value) (w : World), Lies n S w v l → bulkF n l ≤ 1000000000 →
    Calls Tryz.prog 56 #[v] w fun e w' => e = .returned (.int .i64 (sizeF n l)) ∧ Keep [] w w'
  | 0, _, _, _, _, h, _ => h.elim
  | n + 1, l, S, v, w, h, hb => by
    obtain ⟨A, cap, rfl, hml, hat⟩ := lies_open h
    have HAT := Lib.hid hat
    have HIH := Lib.hid (size_any n)
    have hll : l.length ≤ 1000000000 := by have := bulkL_len (bulkF n) l; simp only [bulkF] at hb; omega
    have HB := Lib.hid hb
    clear h hat hml hb
    go_enter Tryz.func56, Tryz.ntmps56
    go_wp2
    go_loopw [3, 12] (fun t i wr => ∃ k : Nat, k ≤ l.length ∧ i = .int .i64 k ∧ t = .int .i64 (l.length + sumL (sizeF n) (l.take k) : Nat) ∧ Keep [] w wr) (fun _ i _ => l.length - (intOf i).toNat)
    case atStart => exact ⟨0, Nat.zero_le _, rfl, by simp [sumL], Keep.refl _ _⟩
    case round =>
      obtain ⟨k, hk, rfl, rfl, hK⟩ := hrel
      have HK := Lib.hid hK
      clear hK
      by_cases hlt : k < l.length
      · obtain ⟨p, hp⟩ : ∃ p, l[k]? = some p := ⟨_, List.getElem?_eq_getElem hlt⟩
        obtain ⟨b, o, cv, rfl, hb, hP, hC⟩ := HAT.out k p hp
        obtain ⟨a0, a1, a2, a3, a4, a5, a6⟩ := hP.keep HK.out hb
        have hC1 := hC.keep HK.out (by simp)
        obtain ⟨Ac, cc, rfl⟩ := hC1.formL
        have hS1 : sumL (sizeF n) (l.take (k + 1)) = sumL (sizeF n) (l.take k) + sumC (sizeF n) p.cs := by rw [take_snoc' hp, sumL_append]; simp [sumL]
        have hS2 := sumL_take (sizeF n) l (k + 1)
        have hS3 := sumL_le (size_le n) l
        have hbk := bulkL_at (bulkF n) l k p hp
        have hbL : bulkL (bulkF n) l ≤ 1000000000 := HB.out
        have HC := Lib.hid hC1
        have HS1 := Lib.hid hS1
        have hcl : p.cs.length ≤ 1000000000 := by have := bulkC_len (bulkF n) p.cs; omega
        have hbr := Nat.lt_of_lt_of_le hb HK.out.size
        clear hP hC hC1 hS1 hp
        generalize hbase : sumL (sizeF n) (l.take k) = base at *
        clear hbase
        go_wp2
        have hKx : Keep [] wr (wr.alloc (.cells #[.int .i64 p.k, .string p.tx, .string p.nm, .string p.ty, .string p.st, .int .i64 p.off, .slice Ac p.cs.length cc] 68)) := (Keep.refl [] wr).alloc _
        have HKX := Lib.hid (HK.out.nil hKx)
        have HC2 := Lib.hid (HC.out.keep hKx (by simp))
        clear hKx a0 a1 a2 a3 a4 a5 a6 HC
        generalize wr.alloc (.cells #[.int .i64 p.k, .string p.tx, .string p.nm, .string p.ty, .string p.st, .int .i64 p.off, .slice Ac p.cs.length cc] 68) = W1 at *
        generalize wr.heap.size = bx at *
        obtain ⟨A2, cap2, he, _, hcat⟩ := liesC_open HC2.out
        injection he with he1 he2 he3
        subst he1; subst he3
        have HCAT := Lib.hid hcat
        clear hcat
        go_loopw [3, 19] (fun t j wx => ∃ m : Nat, m ≤ p.cs.length ∧ j = .int .i64 m ∧ t = .int .i64 (l.length + (base + sumC (sizeF n) (p.cs.take m)) : Nat) ∧ Keep [] W1 wx) (fun _ j _ => p.cs.length - (intOf j).toNat)
        case atStart => exact ⟨0, Nat.zero_le _, rfl, by simp [sumC], Keep.refl _ _⟩
        case round =>
          obtain ⟨m, hm, rfl, rfl, hKi⟩ := hrel
          have HKi := Lib.hid hKi
          clear hKi
          by_cases hlt2 : m < p.cs.length
          · obtain ⟨c, hc⟩ : ∃ c, p.cs[m]? = some c := ⟨_, List.getElem?_eq_getElem hlt2⟩
            obtain ⟨b2, o2, pv, rfl, hb2, e1, e2, hL⟩ := HCAT.out m c hc
            have e1' := (HKi.out.cell (p := ⟨b2, o2 + m * 2, none⟩) hb2 (by simp)).trans e1
            have e2' := (HKi.out.cell (p := ⟨b2, o2 + m * 2 + 1, none⟩) hb2 (by simp)).trans e2
            obtain ⟨Ap, mp, kp, rfl⟩ := hL.form
            have hbr2 := Nat.lt_of_lt_of_le hb2 HKi.out.size
            have hs1 : sumC (sizeF n) (p.cs.take (m + 1)) = sumC (sizeF n) (p.cs.take m) + sizeF n c.2 := by rw [take_snoc' hc, sumC_append]; simp [sumC]
            have hs2 := sumC_take (sizeF n) p.cs (m + 1)
            have hs3 := HS1.out
            have hbc := bulkC_at (bulkF n) p.cs m c hc
            have hS : Hid (∀ W, Keep [] W1 W → Calls Tryz.prog 56 #[.slice Ap mp kp] W fun e w' => e = .returned (.int .i64 (sizeF n c.2)) ∧ Keep [] W w') := fun W hW => HIH.out c.2 S _ W (hL.keep hW (by simp)) (by omega)
            have HS2 := Lib.hid hs1
            have hbound : l.length + (base + sumC (sizeF n) (p.cs.take m)) + sizeF n c.2 ≤ 1000000000 := by omega
            clear e1 e2 hL hc hs1 hs2 hs3
            generalize sumC (sizeF n) (p.cs.take m) = sm at *
            go_wp2_with (go_at_call 56; refine (hS.out _ (HKi.out.alloc _)).mono ?_; rintro e w5 ⟨rfl, hk5⟩)
            go_roundw
            case rel => exact ⟨m + 1, by omega, by go_num, by rw [HS2.out]; congr 1; omega, (HKi.out.alloc _).nil hk5⟩
            case measure => simp [intOf]; omega
          · obtain rfl : m = p.cs.length := by omega
            have hs3 := HS1.out
            rw [List.take_length]
            go_wp2
            go_roundw
            case rel => exact ⟨k + 1, by omega, by go_num, by rw [hs3], HKX.out.nil HKi.out⟩
            case measure => simp [intOf]; omega
      · go_wp2
        go_ret
        obtain rfl : k = l.length := by omega
        exact ⟨by rw [List.take_length]; rfl, HK.out⟩

theorem mostC_append (D : List PT → Nat) : ∀ (m : Nat) (a b : List CT), mostC D m (a ++ b) = mostC D (mostC D m a) b
  | _, [], _ => rfl
  | m, c :: a, b => by simp only [List.cons_append, mostC]; exact mostC_append D _ a b
theorem mostL_append (D : List PT → Nat) : ∀ (m : Nat) (a b : List PT), mostL D m (a ++ b) = mostL D (mostL D m a) b
  | _, [], _ => rfl
  | m, c :: a, b => by simp only [List.cons_append, mostL]; exact mostL_append D _ a b
theorem mostC_le {D K : List PT → Nat} (hd : ∀ l, D l ≤ K l) : ∀ (m : Nat) (cs : List CT), mostC D m cs ≤ max m (bulkC K cs)
  | m, [] => by simp only [mostC, bulkC]; omega
  | m, c :: cs => by have := mostC_le hd (max m (1 + D c.2)) cs; have := hd c.2; simp only [mostC, bulkC]; omega
theorem casesP_le (K : List PT → Nat) (p : PT) : bulkC K (casesP p) ≤ bulkC K p.cs := by unfold casesP; split <;> simp [bulkC]
theorem mostL_le {D K : List PT → Nat} (hd : ∀ l, D l ≤ K l) : ∀ (m : Nat) (l : List PT), mostL D m l ≤ max m (bulkL K l)
  | m, [] => by simp only [mostL, bulkL]; omega
  | m, p :: l => by have := mostL_le hd (mostC D m (casesP p)) l; have := mostC_le hd m (casesP p); have := casesP_le K p; simp only [mostL, bulkL]; omega
theorem depth_le : ∀ (n : Nat) (l : List PT), depthF n l ≤ bulkF n l
  | 0, _ => Nat.le_refl _
  | n + 1, l => by have := mostL_le (depth_le n) 0 l; simp only [depthF, bulkF]; omega
theorem mostL_take_le {D K : List PT → Nat} (hd : ∀ l, D l ≤ K l) (l : List PT) (k : Nat) : mostL D 0 (l.take k) ≤ bulkL K l := by
  have h1 := mostL_le hd 0 (l.take k)
  have h2 : bulkL K (l.take k) ≤ bulkL K l := by
    have happ : ∀ a b : List PT, bulkL K (a ++ b) = bulkL K a + bulkL K b := fun a b => by
      induction a with
      | nil => simp [bulkL]
      | cons x a ih => simp only [List.cons_append, bulkL, ih]; omega
    have := happ (l.take k) (l.drop k)
    rw [List.take_append_drop] at this; omega
  omega

set_option maxRecDepth 100000 in
set_option maxHeartbeats 400000 in
/-- cases. -/
theorem cases_any {n : Nat} {S : Nat → Prop} (p : PT) (A : Option Addr) (m c : Nat) (w : World) (h : LiesC n S w (.slice A m c) p.cs) :
    Calls Tryz.prog 88 #[.agg #[.int .i64 p.k, .string p.tx, .string p.nm, .string p.ty, .string p.st, .int .i64 p.off, .slice A m c]] w fun e w' => ∃ A' c', e = .returned (.slice A' (casesP p).length c') ∧ LiesC n S w' (.slice A' (casesP p).length c') (casesP p) ∧ Keep [] w w' := by
  obtain ⟨A2, c2, he⟩ := h.formL
  injection he with h1 h2 h3
  subst h1; subst h2; subst h3
  have H := Lib.hid h
  have nil : p.k < 4 ∨ 6 < p.k → casesP p = [] := fun h => by unfold casesP; rw [if_pos h]
  have all : ¬ (p.k < 4 ∨ 6 < p.k) → casesP p = p.cs := fun h => by unfold casesP; rw [if_neg h]
  have NIL := Lib.hid nil
  have ALL := Lib.hid all
  clear h nil all
  go_enter Tryz.func88, Tryz.ntmps88
  go_wp2
  all_goals
    go_ret
    first
      | (refine ⟨none, 0, by rw [NIL.out (by omega)]; rfl, by rw [NIL.out (by omega)]; exact LiesC.nil _ _ _, (Keep.refl _ _).alloc _⟩)
      | (refine ⟨A, c, by rw [ALL.out (by omega)]; rfl, by rw [ALL.out (by omega)]; exact H.out.keep (bs := []) ((Keep.refl _ _).alloc _) (by simp), (Keep.refl _ _).alloc _⟩)

set_option maxRecDepth 100000 in
set_option maxHeartbeats 4000000 in
/-- Depth. -/
theorem depth_any : ∀ (n : Nat) (l : List PT) (S : Nat → Prop) (v : Value) (w : World), Lies n S w v l → bulkF n l ≤ 1000000000 →
    Calls Tryz.prog 57 #[v] w fun e w' => e = .returned (.int .i64 (depthF n l)) ∧ Keep [] w w'
  | 0, _, _, _, _, h, _ => h.elim
  | n + 1, l, S, v, w, h, hb => by
    obtain ⟨A, cap, rfl, hml, hat⟩ := lies_open h
    have HAT := Lib.hid hat
    have HIH := Lib.hid (depth_any n)
    have hll : l.length ≤ 1000000000 := by have := bulkL_len (bulkF n) l; simp only [bulkF] at hb; omega
    have HB := Lib.hid hb
    clear h hat hml hb
    go_enter Tryz.func57, Tryz.ntmps57
    go_wp2
    go_loopw [3, 10] (fun t i wr => ∃ k : Nat, k ≤ l.length ∧ i = .int .i64 k ∧ t = .int .i64 (mostL (depthF n) 0 (l.take k) : Nat) ∧ Keep [] w wr) (fun _ i _ => l.length - (intOf i).toNat)
    case atStart => exact ⟨0, Nat.zero_le _, rfl, by simp [mostL], Keep.refl _ _⟩
    case round =>
      obtain ⟨k, hk, rfl, rfl, hK⟩ := hrel
      have HK := Lib.hid hK
      clear hK
      by_cases hlt : k < l.length
      · obtain ⟨p, hp⟩ : ∃ p, l[k]? = some p := ⟨_, List.getElem?_eq_getElem hlt⟩
        obtain ⟨b, o, cv, rfl, hb, hP, hC⟩ := HAT.out k p hp
        obtain ⟨a0, a1, a2, a3, a4, a5, a6⟩ := hP.keep HK.out hb
        have hC1 := hC.keep HK.out (by simp)
        obtain ⟨Ac, cc, rfl⟩ := hC1.formL
        have hS1 : mostL (depthF n) 0 (l.take (k + 1)) = mostC (depthF n) (mostL (depthF n) 0 (l.take k)) (casesP p) := by rw [take_snoc' hp, mostL_append]; rfl
        have hS2 := mostL_take_le (depth_le n) l k
        have hbk := bulkL_at (bulkF n) l k p hp
        have hbL : bulkL (bulkF n) l ≤ 1000000000 := HB.out
        have hcp := casesP_le (bulkF n) p
        have HS1 := Lib.hid hS1
        have hcl : (casesP p).length ≤ 1000000000 := by have := bulkC_len (bulkF n) (casesP p); omega
        have hbr := Nat.lt_of_lt_of_le hb HK.out.size
        have HCA : Hid (∀ W, Keep [] wr W → Calls Tryz.prog 88 #[.agg #[.int .i64 p.k, .string p.tx, .string p.nm, .string p.ty, .string p.st, .int .i64 p.off, .slice Ac p.cs.length cc]] W fun e w' => ∃ A' c', e = .returned (.slice A' (casesP p).length c') ∧ LiesC n S w' (.slice A' (casesP p).length c') (casesP p) ∧ Keep [] W w') := fun W hW => cases_any p Ac p.cs.length cc W (hC1.keep hW (by simp))
        clear hP hC hC1 hS1 hp
        generalize mostL (depthF n) 0 (l.take k) = base at *
        go_wp2_with fail
        have hKx : Keep [] wr (wr.alloc (.cells #[.int .i64 p.k, .string p.tx, .string p.nm, .string p.ty, .string p.st, .int .i64 p.off, .slice Ac p.cs.length cc] 68)) := (Keep.refl [] wr).alloc _
        refine (HCA.out _ hKx).mono ?_
        rintro e W1 ⟨A2, c2, rfl, hC2, hk2⟩
        have HKX := Lib.hid (HK.out.nil (hKx.nil hk2))
        obtain ⟨A3, cap2, he, _, hcat⟩ := liesC_open hC2
        injection he with he1 he2 he3
        subst he1; subst he3
        have HCAT := Lib.hid hcat
        clear hcat hKx hk2 a0 a1 a2 a3 a4 a5 a6 hC2
        generalize wr.heap.size = bx at *
        go_wp2
        go_loopw [3, 17] (fun t j wx => ∃ m : Nat, m ≤ (casesP p).length ∧ j = .int .i64 m ∧ t = .int .i64 (mostC (depthF n) base ((casesP p).take m) : Nat) ∧ Keep [] W1 wx) (fun _ j _ => (casesP p).length - (intOf j).toNat)
        case atStart => exact ⟨0, Nat.zero_le _, rfl, by simp [mostC], Keep.refl _ _⟩
        case round =>
          obtain ⟨m, hm, rfl, rfl, hKi⟩ := hrel
          have HKi := Lib.hid hKi
          clear hKi
          by_cases hlt2 : m < (casesP p).length
          · obtain ⟨c, hc⟩ : ∃ c, (casesP p)[m]? = some c := ⟨_, List.getElem?_eq_getElem hlt2⟩
            obtain ⟨b2, o2, pv, rfl, hb2, e1, e2, hL⟩ := HCAT.out m c hc
            have e1' := (HKi.out.cell (p := ⟨b2, o2 + m * 2, none⟩) hb2 (by simp)).trans e1
            have e2' := (HKi.out.cell (p := ⟨b2, o2 + m * 2 + 1, none⟩) hb2 (by simp)).trans e2
            obtain ⟨Ap, mp, kp, rfl⟩ := hL.form
            have hbr2 := Nat.lt_of_lt_of_le hb2 HKi.out.size
            have hs1 : mostC (depthF n) base ((casesP p).take (m + 1)) = max (mostC (depthF n) base ((casesP p).take m)) (1 + depthF n c.2) := by rw [take_snoc' hc, mostC_append]; rfl
            have hbc := bulkC_at (bulkF n) (casesP p) m c hc
            have hdl := depth_le n c.2
            have hml : mostC (depthF n) base ((casesP p).take m) ≤ 1000000000 := by
              have h1 := mostC_le (depth_le n) base ((casesP p).take m)
              have h2 : bulkC (bulkF n) ((casesP p).take m) ≤ bulkC (bulkF n) (casesP p) := by
                have happ : ∀ a b : List CT, bulkC (bulkF n) (a ++ b) = bulkC (bulkF n) a + bulkC (bulkF n) b := fun a b => by
                  induction a with
                  | nil => simp [bulkC]
                  | cons x a ih => simp only [List.cons_append, bulkC, ih]; omega
                have := happ ((casesP p).take m) ((casesP p).drop m)
                rw [List.take_append_drop] at this; omega
              omega
            have hS : Hid (∀ W, Keep [] W1 W → Calls Tryz.prog 57 #[.slice Ap mp kp] W fun e w' => e = .returned (.int .i64 (depthF n c.2)) ∧ Keep [] W w') := fun W hW => HIH.out c.2 S _ W (hL.keep hW (by simp)) (by omega)
            have HS2 := Lib.hid hs1
            clear e1 e2 hL hc hs1
            generalize mostC (depthF n) base ((casesP p).take m) = sm at *
            generalize depthF n c.2 = dc at *
            go_wp2_with (go_at_call 57; refine (hS.out _ (HKi.out.alloc _)).mono ?_; rintro e w5 ⟨rfl, hk5⟩)
            go_roundw
            case rel => exact ⟨m + 1, by omega, by go_num, by rw [HS2.out]; congr 1; omega, (HKi.out.alloc _).nil hk5⟩
            case measure => simp [intOf]; omega
          · obtain rfl : m = (casesP p).length := by omega
            have hs3 := HS1.out
            rw [List.take_length]
            go_wp2
            go_roundw
            case rel => exact ⟨k + 1, by omega, by go_num, by rw [hs3], HKX.out.nil HKi.out⟩
            case measure => simp [intOf]; omega
      · go_wp2
        go_ret
        obtain rfl : k = l.length := by omega
        exact ⟨by rw [List.take_length]; rfl, HK.out⟩
end Go.Proofs.YtmfoiceofhcicaaGreatDoor
