/- Plain, and words for memory: for lift of code. No walk. -/
import Derived.Test.YtmfoiceofhcicaaGreatDoorKX
namespace Go.Proofs.YtmfoiceofhcicaaGreatDoor
open Go.RowKit

section
variable {ops : List OT}
theorem casL_ge {M : Nat → Option (List PT × Nat)} (hM : ∀ i l e, M i = some (l, e) → i ≤ e ∧ e < ops.length) : ∀ (ks : List ByteArray) (i : Nat) (acc cs : List CT) (e : Nat), casL ops M ks i acc = some (cs, e) → i ≤ e ∧ (i < ops.length → e < ops.length)
  | [], i, acc, cs, e, h => by
    simp only [casL, Option.some.injEq, Prod.mk.injEq] at h
    rw [← h.2]
    exact ⟨Nat.le_refl _, id⟩
  | k :: ks, i, acc, cs, e, h => by
    unfold casL at h
    cases hm : M (i + 1) with
    | none => rw [hm] at h; cases h
    | some x =>
      obtain ⟨l, j⟩ := x
      rw [hm] at h
      simp only at h
      split at h
      · have h1 := hM _ _ _ hm
        have h2 := casL_ge hM ks j _ _ _ h
        exact ⟨by omega, fun _ => h2.2 h1.2⟩
      · cases h
theorem liftF_ge : ∀ (F nest i : Nat) (acc l : List PT) (e : Nat), liftF ops F nest i acc = some (l, e) → i ≤ e ∧ e < ops.length
  | 0, _, _, _, _, _, h => by simp [liftF] at h
  | F + 1, nest, i, acc, l, e, h => by
    unfold liftF at h
    cases ho : ops[i]? with
    | none => rw [ho] at h; cases h
    | some o =>
      have hi := (List.getElem?_eq_some_iff.1 ho).1
      rw [ho] at h
      simp only at h
      split at h
      · have := liftF_ge F _ _ _ _ _ h; omega
      split at h
      · have := liftF_ge F _ _ _ _ _ h; omega
      split at h
      · have := liftF_ge F _ _ _ _ _ h; omega
      split at h
      · simp only [Option.some.injEq, Prod.mk.injEq] at h
        omega
      split at h
      · cases h
      · split at h
        · cases h
        · rename_i cs e' hc
          have h1 := casL_ge (fun i l e hh => liftF_ge F _ i _ l e hh) _ _ _ _ _ hc
          have h2 := liftF_ge F _ _ _ _ _ h
          omega
end

/-- Parts of the call's own, with all that they lead to. -/
def OwnL (n : Nat) (w : World) (B : Nat) (v : Value) (l : List PT) : Prop := ∃ S : Nat → Prop, (∀ x, S x → B ≤ x ∧ x < w.heap.size ∧ x ∉ v.ownBlock.toList) ∧ OwnM n S w B v l
def OwnC (n : Nat) (w : World) (B : Nat) (v : Value) (l : List CT) : Prop := ∃ S : Nat → Prop, (∀ x, S x → B ≤ x ∧ x < w.heap.size ∧ x ∉ v.ownBlock.toList) ∧ OwnK n S w B v l
section
variable {n B : Nat} {w w' : World} {v : Value} {l : List PT} {cs : List CT} {bs : List Nat}
theorem OwnL.nil (n : Nat) (w : World) (B : Nat) : OwnL n w B (.slice none 0 0) [] := ⟨fun _ => False, fun _ h => h.elim, OwnM.nil _ _ _ _⟩
theorem OwnC.nil (n : Nat) (w : World) (B : Nat) : OwnC n w B (.slice none 0 0) [] := ⟨fun _ => False, fun _ h => h.elim, OwnK.nil _ _ _ _⟩
theorem OwnL.keep (h : OwnL n w B v l) (hk : Keep bs w w') (hb : ∀ x ∈ bs, w.heap.size ≤ x ∨ x < B) : OwnL n w' B v l := by
  obtain ⟨S, hS, hM⟩ := h
  have hlt := hM.lt
  refine ⟨S, fun x hx => ⟨(hS x hx).1, Nat.lt_of_lt_of_le (hS x hx).2.1 hk.size, (hS x hx).2.2⟩, hM.keep hk (fun x hx hs => ?_) (fun x hx hc => ?_)⟩
  · have := hS x hs
    rcases hb x hx with h | h <;> omega
  · have := hlt x hx
    rcases hb x hc with h | h <;> omega
theorem OwnC.keep (h : OwnC n w B v cs) (hk : Keep bs w w') (hb : ∀ x ∈ bs, w.heap.size ≤ x ∨ x < B) : OwnC n w' B v cs := by
  obtain ⟨S, hS, hM⟩ := h
  have hlt := hM.lt
  refine ⟨S, fun x hx => ⟨(hS x hx).1, Nat.lt_of_lt_of_le (hS x hx).2.1 hk.size, (hS x hx).2.2⟩, hM.keep hk (fun x hx hs => ?_) (fun x hx hc => ?_)⟩
  · have := hS x hs
    rcases hb x hx with h | h <;> omega
  · have := hlt x hx
    rcases hb x hc with h | h <;> omega
theorem OwnL.lies (h : OwnL n w B v l) : Lies (n + 1) (fun x => B ≤ x ∧ x < w.heap.size) w v l := by
  obtain ⟨S, hS, hM⟩ := h
  exact hM.lies (fun x hx => ⟨(hS x hx).1, (hS x hx).2.1⟩) hM.lt
theorem OwnC.lies (h : OwnC n w B v cs) : LiesC n (fun x => B ≤ x ∧ x < w.heap.size) w v cs := by
  obtain ⟨S, hS, hM⟩ := h
  exact hM.lies (fun x hx => ⟨(hS x hx).1, (hS x hx).2.1⟩) hM.lt
theorem OwnL.form (h : OwnL n w B v l) : ∃ A cap, v = .slice A l.length cap := by
  obtain ⟨S, hS, vs, h1, h2, h3⟩ := h
  rcases h2.2 with ⟨rfl, h0⟩ | ⟨g, cap, cur, rfl, _⟩
  · rw [h0]; exact ⟨_, _, rfl⟩
  · exact ⟨_, _, rfl⟩
theorem OwnC.form (h : OwnC n w B v cs) : ∃ A cap, v = .slice A cs.length cap := by
  obtain ⟨S, hS, vs, h1, h2, h3⟩ := h
  rcases h2.2 with ⟨rfl, h0⟩ | ⟨g, cap, cur, rfl, _⟩
  · rw [h0]; exact ⟨_, _, rfl⟩
  · exact ⟨_, _, rfl⟩
theorem OwnL.lt (h : OwnL n w B v l) : ∀ x ∈ v.ownBlock.toList, B ≤ x ∧ x < w.heap.size := by
  obtain ⟨S, hS, hM⟩ := h
  exact hM.lt
theorem OwnC.lt (h : OwnC n w B v cs) : ∀ x ∈ v.ownBlock.toList, B ≤ x ∧ x < w.heap.size := by
  obtain ⟨S, hS, hM⟩ := h
  exact hM.lt
theorem infoPart' : (Tryz.prog.info? 68).map (fun i => (i.zero, i.size, i.bytes)) = some (some (.agg #[.int .i64 0, .string ⟨#[]⟩, .string ⟨#[]⟩, .string ⟨#[]⟩, .string ⟨#[]⟩, .int .i64 0, .slice none 0 0]), 7, 104) := by kernel_rfl
theorem infoCase' : (Tryz.prog.info? 70).map (fun i => (i.zero, i.size, i.bytes)) = some (some (.agg #[.string ⟨#[]⟩, .slice none 0 0]), 2, 40) := by kernel_rfl
/-- append of one part, laid just now, to parts of the call's own. -/
theorem wpList_append_l {ops : Array Oper} {rest : List Oper} {o : Oper} {a : Act} {Q : Exit → Act → World → Prop} (hgd : o.guard = none) (s x : Operand)
    (ho : o.op = .call { callee := .builtin .append, args := #[s, x], argTypes := #[22, 22] })
    (hs : a.eval s = v) (hown : OwnL n w B v l) (m : Nat) (hm : w.heap.size = m) (p : PT) (cv : Value) (hx : a.eval x = .slice (some ⟨m, 0, none⟩) 1 1)
    (T : Nat → Prop) (hT : ∀ x, T x → B ≤ x ∧ x < m ∧ x ∉ v.ownBlock.toList) (hcv : cv.oneCell' = true) (hch : LiesC n T w cv p.cs)
    (hlen : l.length ≤ 1000000000) (hB : B ≤ w.heap.size)
    (h : ∀ A' cap' w', OwnL n w' B (.slice A' (l.length + 1) cap') (l ++ [p]) → Keep v.ownBlock.toList w w' → wpList Tryz.prog ops Q rest (a.put o.dst (.slice A' (l.length + 1) cap')) w') :
    wpList Tryz.prog ops Q (o :: rest) a (w.alloc (.cells (p.cells cv).toArray 68)) := by
  obtain ⟨i0, hi, hz0, hz1, hz2⟩ := info_parts infoPart'
  obtain ⟨S, hS, vs, hvl, how, hcl⟩ := hown
  have hvb : ∀ x ∈ v.ownBlock.toList, x < w.heap.size := fun x hx => (World.ownsRow.lt how x (by simpa using hx)).2
  refine wpList_append_lies _ hgd s x 22 ho B 68 i0 _ 7 104 Tryz.underlying22 hi hz0 hz1 hz2 rfl (by decide) v l.length (partC l vs) hs (World.ownsRow.alloc how _) ⟨m, 0, none⟩ 1 1 (p.cells cv) hx rfl (new_cells w m hm _ _) ?_ (by decide) (by unfold maxLen; omega) (by omega) (by simp; omega) (m + 1) (by simp [hm]) ?_
  · intro u hu
    simp only [PT.cells, List.mem_cons, List.mem_nil_iff, or_false] at hu
    rcases hu with rfl | rfl | rfl | rfl | rfl | rfl | rfl <;> first | rfl | exact hcv
  · intro g cap w' h1 h2 h3 h4
    have hk : Keep v.ownBlock.toList w w' := ((Keep.refl _ w).alloc _).grown h2 fun k hk => .inl (by simpa using hk)
    refine h _ cap w' ⟨fun x => S x ∨ T x, fun x hx => ?_, vs ++ [cv], by simp [hvl], ?_, ?_⟩ hk
    · have hx' : B ≤ x ∧ x < m ∧ x ∉ v.ownBlock.toList := by
        rcases hx with hx | hx
        · have := hS x hx; exact ⟨this.1, by omega, this.2.2⟩
        · exact hT x hx
      refine ⟨hx'.1, Nat.lt_of_lt_of_le (by omega) hk.size, fun hc => ?_⟩
      simp [Value.ownBlock] at hc
      subst hc
      rcases h3 with h3 | h3
      · exact hx'.2.2 (by simp [h3])
      · omega
    · rw [partC_append _ _ _ _ hvl, List.length_append]
      simpa [partC] using h1
    · intro i q u hq hu
      have key : LiesC n (fun x => S x ∨ T x) w u q.cs := by
        rcases Nat.lt_or_ge i l.length with hh | hh
        · rw [List.getElem?_append_left hh] at hq
          rw [List.getElem?_append_left (by omega)] at hu
          exact (hcl i q u hq hu).mono fun x hx => .inl hx
        · rw [List.getElem?_append_right hh] at hq
          rw [List.getElem?_append_right (by omega), hvl] at hu
          cases hi : i - l.length with
          | zero => rw [hi] at hq hu; simp at hq hu; subst hq; subst hu; exact hch.mono fun x hx => .inr hx
          | succ k => rw [hi] at hq; simp at hq
      exact key.keep hk (fun x hx hc => by
        rcases hc with hc | hc
        · exact (hS x hc).2.2 hx
        · exact (hT x hc).2.2 hx)
/-- append of one case, laid just now, to cases of the call's own. -/
theorem wpList_append_k {ops : Array Oper} {rest : List Oper} {o : Oper} {a : Act} {Q : Exit → Act → World → Prop} (hgd : o.guard = none) (s x : Operand)
    (ho : o.op = .call { callee := .builtin .append, args := #[s, x], argTypes := #[66, 66] })
    (hs : a.eval s = v) (hown : OwnC n w B v cs) (m : Nat) (hm : w.heap.size = m) (c : CT) (pv : Value) (hx : a.eval x = .slice (some ⟨m, 0, none⟩) 1 1)
    (T : Nat → Prop) (hT : ∀ x, T x → B ≤ x ∧ x < m ∧ x ∉ v.ownBlock.toList) (hcv : pv.oneCell' = true) (hch : Lies n T w pv c.2)
    (hlen : cs.length ≤ 1000000000) (hB : B ≤ w.heap.size)
    (h : ∀ A' cap' w', OwnC n w' B (.slice A' (cs.length + 1) cap') (cs ++ [c]) → Keep v.ownBlock.toList w w' → wpList Tryz.prog ops Q rest (a.put o.dst (.slice A' (cs.length + 1) cap')) w') :
    wpList Tryz.prog ops Q (o :: rest) a (w.alloc (.cells #[.string c.1, pv] 70)) := by
  obtain ⟨i0, hi, hz0, hz1, hz2⟩ := info_parts infoCase'
  obtain ⟨S, hS, us, hvl, how, hcl⟩ := hown
  refine wpList_append_lies _ hgd s x 66 ho B 70 i0 _ 2 40 Tryz.underlying66 hi hz0 hz1 hz2 rfl (by decide) v cs.length (caseC cs us) hs (World.ownsRow.alloc how _) ⟨m, 0, none⟩ 1 1 [.string c.1, pv] hx rfl (new_cells w m hm [.string c.1, pv] _) ?_ (by decide) (by unfold maxLen; omega) (by omega) (by simp; omega) (m + 1) (by simp [hm]) ?_
  · intro u hu
    simp only [List.mem_cons, List.mem_nil_iff, or_false] at hu
    rcases hu with rfl | rfl
    · rfl
    · exact hcv
  · intro g cap w' h1 h2 h3 h4
    have hk : Keep v.ownBlock.toList w w' := ((Keep.refl _ w).alloc _).grown h2 fun k hk => .inl (by simpa using hk)
    refine h _ cap w' ⟨fun x => S x ∨ T x, fun x hx => ?_, us ++ [pv], by simp [hvl], ?_, ?_⟩ hk
    · have hx' : B ≤ x ∧ x < m ∧ x ∉ v.ownBlock.toList := by
        rcases hx with hx | hx
        · have := hS x hx; exact ⟨this.1, by omega, this.2.2⟩
        · exact hT x hx
      refine ⟨hx'.1, Nat.lt_of_lt_of_le (by omega) hk.size, fun hc => ?_⟩
      simp [Value.ownBlock] at hc
      subst hc
      rcases h3 with h3 | h3
      · exact hx'.2.2 (by simp [h3])
      · omega
    · rw [caseC_append _ _ _ _ hvl, List.length_append]
      simpa [caseC] using h1
    · intro i q u hq hu
      have key : Lies n (fun x => S x ∨ T x) w u q.2 := by
        rcases Nat.lt_or_ge i cs.length with hh | hh
        · rw [List.getElem?_append_left hh] at hq
          rw [List.getElem?_append_left (by omega)] at hu
          exact (hcl i q u hq hu).mono fun x hx => .inl hx
        · rw [List.getElem?_append_right hh] at hq
          rw [List.getElem?_append_right (by omega), hvl] at hu
          cases hi : i - cs.length with
          | zero => rw [hi] at hq hu; simp at hq hu; subst hq; subst hu; exact hch.mono fun x hx => .inr hx
          | succ k => rw [hi] at hq; simp at hq
      exact key.keep hk (fun x hx hc => by
        rcases hc with hc | hc
        · exact (hS x hc).2.2 hx
        · exact (hT x hc).2.2 hx)
end
/-- What lift tells. -/
def LiftO (ops : List OT) (F nest i : Nat) (w : World) (e : Ending) (w' : World) : Prop :=
  Keep [] w w' ∧ match liftF ops F nest i [] with
  | none => e = .returned (.tuple #[.slice none 0 0, .int .i64 0, .bool false])
  | some (l, j) => ∃ u, e = .returned (.tuple #[u, .int .i64 j, .bool true]) ∧ OwnL nest w' w.heap.size u l
def LiC (nest : Nat) : Prop := ∀ (ops : List OT) (P : List ByteArray) (i F : Nat) (w : World) (B xb : Nat), Lst w B xb P ops → i ≤ ops.length → ops.length ≤ 1000000 → (∀ o ∈ ops, o.k ≤ 7 ∧ o.ks.length ≤ 65535) → ops.length + 1 - i ≤ F →
  Calls Tryz.prog 53 #[.pointer (some ⟨xb, 0, none⟩), .int .i64 i, .int .i64 nest] w (LiftO ops F nest i w)
end Go.Proofs.YtmfoiceofhcicaaGreatDoor
