/- Walks: the reference's add. -/
import Derived.Test.YtkkglaglnfebjaaDoorWScan
import Derived.Deep.RegionLawGrows
import Derived.Test.YtkkglaglnfebjaaDoorRA
import Derived.Test.YtkkglaglnfebjaaDoorRL
import Derived.Test.YtkkglaglnfebjaaDoorWParse
import Derived.Test.YtkkglaglnfebjaaDoorWText
namespace Go.Proofs.YtkkglaglnfebjaaDoor
open Go.RowKit Go.IntWalk

/-- append of one piece to a slice without room. -/
theorem wp_append_full {o : Oper} {a : Act} {w : World} {K : Act → World → Prop} {Q : Exit → Act → World → Prop} (hgd : o.guard = none) (s x : Operand)
    (ho : o.op = .call { callee := .builtin .append, args := #[s, x], argTypes := #[23, 23] })
    {A : Option Addr} {n : Nat} {l : List Aff} (hn : l.length = n) (hs : a.eval s = .slice A n n) (hnil : A = none → n = 0) (hc : l ≠ [] → ∃ b o, A = some ⟨b, o, none⟩ ∧ ∀ j u, (affC l)[j]? = some u → w.cell? ⟨b, o + j, none⟩ = some u)
    {b : Nat} {p : Aff} (hx : a.eval x = .slice (some ⟨b, 0, none⟩) 1 1) (hp : ∀ j u, (affC [p])[j]? = some u → w.cell? ⟨b, j, none⟩ = some u) (hlen : l.length ≤ 1000000000000)
    (h : ∀ v' w', OwnA w' w.heap.size v' (l ++ [p]) → Keep [] w w' → K (a.put o.dst v') w') : Oper.wp Tryd.prog o a w K Q := by
  obtain ⟨i0, hi, hz0, hz1, hz2⟩ := info_parts infoAffix
  subst hn
  have hw : Region.wanted o (yielded #[] a.tmps) = true := by simp [Region.wanted, hgd]
  have key := step_append_grows (P := Tryd.prog) (ops := #[]) (o := o) (a := a) (w := w) (K := K) (Q := Q) (E := True) hgd s x 23 ho 42 i0 _ 3 32 Tryd.underlying23 hi hz0 hz1 hz2 rfl (by decide)
    A l.length l.length (affC l) hs (fun hA => ⟨hnil hA, hnil hA⟩) (affC_length l) (fun ad hA j u hu => by
      have hne : l ≠ [] := by rintro rfl; simp [affC] at hu
      obtain ⟨b', o', hA', hc'⟩ := hc hne
      rw [hA] at hA'
      obtain rfl := Option.some.inj hA'
      rw [addr_plus]
      exact hc' j u hu) ⟨b, 0, none⟩ 1 1 (affC [p]) hx rfl (fun j u hu => by rw [addr_plus, Nat.zero_add]; exact hp j u hu) (affC_ones [p]) (by omega) (by unfold maxLen; omega) (by omega)
    (fun v' w' h1 h2 => h v' w' (by unfold OwnA; rw [affC_append, List.length_append]; exact h1) ((Keep.refl [] w).grown h2 fun k hk => by cases hk))
  rw [if_pos hw] at key
  exact key

/-- append of pieces that read to a slice of the call's own that is empty. -/
theorem wpList_append_copy {ops : Array Oper} {rest : List Oper} {o : Oper} {a : Act} {Q : Exit → Act → World → Prop} (hgd : o.guard = none) (s x : Operand)
    (ho : o.op = .call { callee := .builtin .append, args := #[s, x], argTypes := #[23, 23] })
    {w : World} {B b c : Nat} (hs : a.eval s = .slice (some ⟨b, 0, none⟩) 0 c) (hown : OwnA w B (.slice (some ⟨b, 0, none⟩) 0 c) []) {g o' cap n : Nat} {l : List Aff} (hn : l.length = n) (hx : a.eval x = .slice (some ⟨g, o', none⟩) n cap)
    (hc : ∀ j u, (affC l)[j]? = some u → w.cell? ⟨g, o' + j, none⟩ = some u) (hlen : l.length ≤ 1000000000000) (hB : B ≤ w.heap.size)
    (h : ∀ v' w', OwnA w' B v' l → Keep [b] w w' → wpList Tryd.prog ops Q rest (a.put o.dst v') w') : wpList Tryd.prog ops Q (o :: rest) a w := by
  obtain ⟨i0, hi, hz0, hz1, hz2⟩ := info_parts infoAffix
  subst hn
  refine wpList_append_own _ hgd s x 23 ho B 42 i0 _ 3 32 Tryd.underlying23 hi hz0 hz1 hz2 rfl (by decide) _ 0 [] hs hown ⟨g, o', none⟩ l.length cap (affC l) hx (affC_length l) ?_ (affC_ones l) (by unfold maxLen; omega) (by omega) hB ?_
  · intro j u hu
    rw [addr_plus]
    exact hc j u hu
  · intro v' w' h1 h2 _
    refine h v' w' ?_ ((Keep.refl _ w).grown h2 fun k hk => .inl (by simp [Value.ownBlock] at hk; simp [hk]))
    unfold OwnA
    simpa using h1
theorem empty_own (w : World) (n : Nat) (hn : w.heap.size = n) : OwnA (w.alloc (.cells #[] 42)) n (.slice (some ⟨n, 0, none⟩) 0 0) [] := by
  subst hn
  exact ⟨rfl, .inr ⟨w.heap.size, 0, #[], rfl, Nat.le_refl _, heap_alloc_new w _, Nat.le_refl _, by simp [maxLen], rfl, rfl⟩⟩
theorem box_cells {W : World} {g : Nat} {x : ByteArray} (h : Blk W g 42 #[.int .i64 1, .string x, .int .i64 0]) : W.cell? ⟨g, 0, none⟩ = some (.int .i64 1) ∧ W.cell? ⟨g, 1, none⟩ = some (.string x) ∧ W.cell? ⟨g, 2, none⟩ = some (.int .i64 0) :=
  ⟨h.cell_eq rfl, h.cell_eq rfl, h.cell_eq rfl⟩
theorem box_affC {W : World} {x : ByteArray} : ∀ j u, (affC [⟨1, x, 0⟩])[j]? = some u → (W.alloc (.cells #[.int .i64 1, .string x, .int .i64 0] 42)).cell? ⟨W.heap.size, j, none⟩ = some u := fun j u hu => by
  refine (Blk.new W 42 #[.int .i64 1, .string x, .int .i64 0]).cell_eq ?_
  rw [affC_one] at hu
  simpa [Aff.cells] using hu

set_option maxRecDepth 100000 in
set_option maxHeartbeats 1000000 in
theorem add_new {B : Nat} (w : World) (v : Value) (l : List Aff) (x : ByteArray) (ho : OwnA w B v l) (hl : l.length ≤ 1000000000) (hn : ∀ a, l.getLast? = some a → a.k ≠ 1) :
    Calls Tryd.prog 88 #[v, .agg #[.int .i64 1, .string x, .int .i64 0]] w fun e w' => ∃ v', e = .returned v' ∧ OwnA w' w.heap.size v' (l ++ [⟨1, x, 0⟩]) ∧ Keep [] w w' := by
  obtain ⟨A, cap, hv, h1, h2, h3⟩ := ho.reads
  subst hv
  have hnil : A = none → l.length = 0 := by
    intro hA
    subst hA
    rcases Nat.eq_zero_or_pos l.length with h | h
    · exact h
    · obtain ⟨_, _, hc, _⟩ := h3 (by rintro rfl; simp at h)
      cases hc
  have HC2 : Hid (∀ W, Keep [] w W → l ≠ [] → ∃ b o, A = some ⟨b, o, none⟩ ∧ ∀ j u, (affC l)[j]? = some u → W.cell? ⟨b, o + j, none⟩ = some u) := fun W hk hne => by
    obtain ⟨b, o, hA, hlt, hc⟩ := h3 hne
    exact ⟨b, o, hA, fun j u hu => (hk.cell (p := ⟨b, o + j, none⟩) hlt (by simp)).trans (hc j u hu)⟩
  obtain ⟨n, hln⟩ : ∃ n, l.length = n := ⟨_, rfl⟩
  have HL := Lib.hid hln
  have HF : Hid (n ≠ 0 → ∃ b o k, A = some ⟨b, o, none⟩ ∧ b < w.heap.size ∧ (k == 1) = false ∧ w.cell? ⟨b, o + (n - 1) * 3, none⟩ = some (.int .i64 k)) := fun h0 => by
    rcases nil_or_snoc l with rfl | ⟨l0, a, rfl⟩
    · exact absurd hln.symm h0
    · obtain ⟨b, o, hA, hlt, hc⟩ := h3 (by simp)
      refine ⟨b, o, a.k, hA, hlt, by simpa using hn a (by simp), hc _ _ ?_⟩
      have : n - 1 = l0.length := by simp at hln; omega
      rw [this]
      exact (affC_at (l0 ++ [a]) l0.length a (by simp)).1
  rw [hln] at h1 hl hnil ⊢
  have HN := Lib.hid hnil
  unfold maxLen at h2
  clear hnil h3 hn hln ho
  have ha1 : (n : Int) ≤ cap := by omega
  have HX0 : Hid (Blk (w.alloc (.cells #[.int .i64 1, .string x, .int .i64 0] 42)) w.heap.size 42 #[.int .i64 1, .string x, .int .i64 0]) := Blk.new _ _ _
  have HK0 : Hid (Keep [] w (w.alloc (.cells #[.int .i64 1, .string x, .int .i64 0] 42))) := (Keep.refl [] w).alloc _
  rcases Nat.eq_zero_or_pos n with h0 | h0
  · subst h0
    go_enter Tryd.func88, Tryd.ntmps88
    go_upto_region 6 with fail
    refine wp_region_U (fun W => W.cell? ⟨w.heap.size, 0, none⟩ = some (.int .i64 1) ∧ W.cell? ⟨w.heap.size, 1, none⟩ = some (.string x) ∧ W.cell? ⟨w.heap.size, 2, none⟩ = some (.int .i64 0)) 9 (by kernel_rfl) ?_
    generalize hW : w.alloc (.cells #[.int .i64 1, .string x, .int .i64 0] 42) = W0 at *
    have HW := Lib.hid hW
    clear hW
    have s0 := Lib.hid (box_cells HX0.out.drew)
    refine anyU_take (i := 0) (v := ?v1) [5,8] rfl (by kernel_rfl) (by kernel_rfl) (by kernel_rfl) (fun _ _ _ h => h) (by kernel_rfl) (by kernel_rfl) s0.out (Or.inl ⟨by rfl, ?hy1⟩) ?rest1
    case hy1 => (intro W hW; obtain ⟨hW1, hW2, hW3⟩ := hW; go_simp <;> with_reducible rfl)
    simp only [Act.put, List.getElem_toArray, List.getElem_cons_zero, List.setIfInBounds_toArray, List.set_cons_zero, List.set_cons_succ]
    refine anyU_take (i := 1) (v := ?v2) [2,5,8] rfl (by kernel_rfl) (by kernel_rfl) (by kernel_rfl) (fun _ _ _ h => h) (by kernel_rfl) (by kernel_rfl) s0.out (Or.inl ⟨by rfl, ?hy2⟩) ?rest2
    case hy2 => (intro W hW; obtain ⟨hW1, hW2, hW3⟩ := hW; go_simp <;> with_reducible rfl)
    simp only [Act.put, List.getElem_toArray, List.getElem_cons_succ, List.getElem_cons_zero, List.setIfInBounds_toArray, List.set_cons_zero, List.set_cons_succ]
    refine anyU_take (i := 2) (v := ?v3) [5,8] rfl (by kernel_rfl) (by kernel_rfl) (by kernel_rfl) (fun _ _ _ h => h) (by kernel_rfl) (by kernel_rfl) s0.out (Or.inl ⟨by rfl, ?hy3⟩) ?rest3
    case hy3 => (intro W hW; obtain ⟨hW1, hW2, hW3⟩ := hW; go_simp <;> with_reducible rfl)
    simp only [Act.put, List.getElem_toArray, List.getElem_cons_succ, List.getElem_cons_zero, List.setIfInBounds_toArray, List.set_cons_zero, List.set_cons_succ]
    refine anyU_take (i := 3) (v := ?v4) [4,5,8] rfl (by kernel_rfl) (by kernel_rfl) (by kernel_rfl) (fun _ _ _ h => h) (by kernel_rfl) (by kernel_rfl) s0.out (Or.inl ⟨by rfl, ?hy4⟩) ?rest4
    case hy4 => (intro W hW; obtain ⟨hW1, hW2, hW3⟩ := hW; go_simp <;> with_reducible rfl)
    simp only [Act.put, List.getElem_toArray, List.getElem_cons_succ, List.getElem_cons_zero, List.setIfInBounds_toArray, List.set_cons_zero, List.set_cons_succ]
    refine anyU_take (i := 4) (v := ?v5) [5,8] rfl (by kernel_rfl) (by kernel_rfl) (by kernel_rfl) (fun _ _ _ h => h) (by kernel_rfl) (by kernel_rfl) s0.out (Or.inl ⟨by rfl, ?hy5⟩) ?rest5
    case hy5 => (intro W hW; obtain ⟨hW1, hW2, hW3⟩ := hW; go_simp <;> with_reducible rfl)
    simp only [Act.put, List.getElem_toArray, List.getElem_cons_succ, List.getElem_cons_zero, List.setIfInBounds_toArray, List.set_cons_zero, List.set_cons_succ]
    refine anyU_take (i := 5) (v := ?v6) [8] rfl (by kernel_rfl) (by kernel_rfl) (by kernel_rfl) (fun _ _ _ h => h) (by kernel_rfl) (by kernel_rfl) s0.out (Or.inl ⟨by rfl, ?hy6⟩) ?rest6
    case hy6 => (intro W hW; obtain ⟨hW1, hW2, hW3⟩ := hW; go_simp <;> with_reducible rfl)
    simp only [Act.put, List.getElem_toArray, List.getElem_cons_succ, List.getElem_cons_zero, List.setIfInBounds_toArray, List.set_cons_zero, List.set_cons_succ]
    refine anyU_take (i := 6) (v := ?v7) [7,8] rfl (by kernel_rfl) (by kernel_rfl) (by kernel_rfl) (fun _ _ _ h => h) (by kernel_rfl) (by kernel_rfl) s0.out (Or.inl ⟨by rfl, ?hy7⟩) ?rest7
    case hy7 => (intro W hW; obtain ⟨hW1, hW2, hW3⟩ := hW; go_simp <;> with_reducible rfl)
    simp only [Act.put, List.getElem_toArray, List.getElem_cons_succ, List.getElem_cons_zero, List.setIfInBounds_toArray, List.set_cons_zero, List.set_cons_succ]
    refine anyU_one (i := 7) (by kernel_rfl) rfl rfl ?_
    intro K hK; simp only [List.getElem_toArray, List.getElem_cons_succ, List.getElem_cons_zero]
    go_simp
    have s1 := Lib.hid (box_cells (HX0.out.drew.alloc (.cells #[.int .i64 1, .string x, .int .i64 0] 42)))
    have HK1 : Hid (Keep [] w (W0.drew.alloc (.cells #[.int .i64 1, .string x, .int .i64 0] 42))) := HK0.out.drew.alloc _
    refine hK.out _ _ (fun _ => s1.out) ?_
    clear hK
    refine anyU_one (i := 8) (by kernel_rfl) rfl rfl ?_
    intro K hK; simp only [List.getElem_toArray, List.getElem_cons_succ, List.getElem_cons_zero]
    refine wp_append_full rfl (.tmp 45) (.tmp 47) (A := A) (n := 0) (l := l) (b := W0.heap.size) (p := ⟨1, x, 0⟩) rfl HL.out rfl (HN.out) (fun hne => HC2.out _ HK1.out hne) rfl ?_ (by rw [HL.out]; omega) ?_
    · exact box_affC
    intro v' w' O1 K1
    have HO1 := Lib.hid O1
    have HKz := Lib.hid (HK1.out.nil K1)
    have s2 := Lib.hid (box_cells ((HX0.out.drew.alloc (.cells #[.int .i64 1, .string x, .int .i64 0] 42)).keep K1 (by simp)))
    have hsz : w.heap.size ≤ (W0.drew.alloc (.cells #[.int .i64 1, .string x, .int .i64 0] 42)).heap.size := HK1.out.size
    clear O1 K1
    refine hK.out _ _ (fun _ => s2.out) ?_
    clear hK
    simp only [Act.put, List.setIfInBounds_toArray, List.set_cons_zero, List.set_cons_succ]
    refine anyU_one (i := 9) (by kernel_rfl) rfl rfl ?_
    intro K hK; simp only [List.getElem_toArray, List.getElem_cons_succ, List.getElem_cons_zero]
    go_simp
    refine hK.out _ _ (fun h => absurd rfl h) ?_
    clear hK
    refine anyU_done (by kernel_rfl) ?_ _
    go_wp2
    go_ret
    exact ⟨v', rfl, HO1.out.mono hsz, HKz.out⟩
  · obtain ⟨b, o, k, rfl, hlt, hk1, c0⟩ := HF.out (by omega)
    obtain ⟨m, rfl⟩ : ∃ m, n = m + 1 := ⟨n - 1, by omega⟩
    simp only [Nat.add_sub_cancel] at c0
    have ha2 : (m : Int) + 1 ≤ cap := by omega
    have ha3 : (0 : Int) ≤ (m : Int) + 1 := by omega
    go_enter Tryd.func88, Tryd.ntmps88
    go_upto_region 6 with fail
    refine wp_region_U (fun W => W.cell? ⟨w.heap.size, 0, none⟩ = some (.int .i64 1) ∧ W.cell? ⟨w.heap.size, 1, none⟩ = some (.string x) ∧ W.cell? ⟨w.heap.size, 2, none⟩ = some (.int .i64 0)) 9 (by kernel_rfl) ?_
    generalize hW : w.alloc (.cells #[.int .i64 1, .string x, .int .i64 0] 42) = W0 at *
    have HW := Lib.hid hW
    clear hW
    have s0 := Lib.hid (box_cells HX0.out.drew)
    refine anyU_take (i := 0) (v := ?v8) [5,8] rfl (by kernel_rfl) (by kernel_rfl) (by kernel_rfl) (fun _ _ _ h => h) (by kernel_rfl) (by kernel_rfl) s0.out (Or.inl ⟨by rfl, ?hy8⟩) ?rest8
    case hy8 => (intro W hW; obtain ⟨hW1, hW2, hW3⟩ := hW; go_simp <;> with_reducible rfl)
    simp only [Act.put, List.getElem_toArray, List.getElem_cons_zero, List.setIfInBounds_toArray, List.set_cons_zero, List.set_cons_succ]
    refine anyU_take (i := 1) (v := ?v9) [2,5,8] rfl (by kernel_rfl) (by kernel_rfl) (by kernel_rfl) (fun _ _ _ h => h) (by kernel_rfl) (by kernel_rfl) s0.out (Or.inl ⟨by rfl, ?hy9⟩) ?rest9
    case hy9 => (intro W hW; obtain ⟨hW1, hW2, hW3⟩ := hW; go_simp <;> with_reducible rfl)
    simp only [Act.put, List.getElem_toArray, List.getElem_cons_succ, List.getElem_cons_zero, List.setIfInBounds_toArray, List.set_cons_zero, List.set_cons_succ]
    refine anyU_take (i := 2) (v := ?v10) [5,8] rfl (by kernel_rfl) (by kernel_rfl) (by kernel_rfl) (fun _ _ _ h => h) (by kernel_rfl) (by kernel_rfl) s0.out (Or.inl ⟨by rfl, ?hy10⟩) ?rest10
    case hy10 => (intro W hW; obtain ⟨hW1, hW2, hW3⟩ := hW; go_simp <;> with_reducible rfl)
    simp only [Act.put, List.getElem_toArray, List.getElem_cons_succ, List.getElem_cons_zero, List.setIfInBounds_toArray, List.set_cons_zero, List.set_cons_succ]
    refine anyU_take (i := 3) (v := ?v11) [4,5,8] rfl (by kernel_rfl) (by kernel_rfl) (by kernel_rfl) (fun _ _ _ h => h) (by kernel_rfl) (by kernel_rfl) s0.out (Or.inl ⟨by rfl, ?hy11⟩) ?rest11
    case hy11 => (intro W hW; obtain ⟨hW1, hW2, hW3⟩ := hW; go_simp <;> with_reducible rfl)
    simp only [Act.put, List.getElem_toArray, List.getElem_cons_succ, List.getElem_cons_zero, List.setIfInBounds_toArray, List.set_cons_zero, List.set_cons_succ]
    refine anyU_take (i := 4) (v := ?v12) [5,8] rfl (by kernel_rfl) (by kernel_rfl) (by kernel_rfl) (fun _ _ _ h => h) (by kernel_rfl) (by kernel_rfl) s0.out (Or.inl ⟨by rfl, ?hy12⟩) ?rest12
    case hy12 => (intro W hW; obtain ⟨hW1, hW2, hW3⟩ := hW; go_simp <;> with_reducible rfl)
    simp only [Act.put, List.getElem_toArray, List.getElem_cons_succ, List.getElem_cons_zero, List.setIfInBounds_toArray, List.set_cons_zero, List.set_cons_succ]
    refine anyU_take (i := 5) (v := ?v13) [8] rfl (by kernel_rfl) (by kernel_rfl) (by kernel_rfl) (fun _ _ _ h => h) (by kernel_rfl) (by kernel_rfl) s0.out (Or.inl ⟨by rfl, ?hy13⟩) ?rest13
    case hy13 => (intro W hW; obtain ⟨hW1, hW2, hW3⟩ := hW; go_simp <;> with_reducible rfl)
    simp only [Act.put, List.getElem_toArray, List.getElem_cons_succ, List.getElem_cons_zero, List.setIfInBounds_toArray, List.set_cons_zero, List.set_cons_succ]
    refine anyU_take (i := 6) (v := ?v14) [7,8] rfl (by kernel_rfl) (by kernel_rfl) (by kernel_rfl) (fun _ _ _ h => h) (by kernel_rfl) (by kernel_rfl) s0.out (Or.inl ⟨by rfl, ?hy14⟩) ?rest14
    case hy14 => (intro W hW; obtain ⟨hW1, hW2, hW3⟩ := hW; go_simp <;> with_reducible rfl)
    simp only [Act.put, List.getElem_toArray, List.getElem_cons_succ, List.getElem_cons_zero, List.setIfInBounds_toArray, List.set_cons_zero, List.set_cons_succ]
    refine anyU_one (i := 7) (by kernel_rfl) rfl rfl ?_
    intro K hK; simp only [List.getElem_toArray, List.getElem_cons_succ, List.getElem_cons_zero]
    go_simp
    have s1 := Lib.hid (box_cells (HX0.out.drew.alloc (.cells #[.int .i64 1, .string x, .int .i64 0] 42)))
    have HK1 : Hid (Keep [] w (W0.drew.alloc (.cells #[.int .i64 1, .string x, .int .i64 0] 42))) := HK0.out.drew.alloc _
    refine hK.out _ _ (fun _ => s1.out) ?_
    clear hK
    refine anyU_one (i := 8) (by kernel_rfl) rfl rfl ?_
    intro K hK; simp only [List.getElem_toArray, List.getElem_cons_succ, List.getElem_cons_zero]
    refine wp_append_full rfl (.tmp 45) (.tmp 47) (A := some ⟨b, o, none⟩) (n := m + 1) (l := l) (b := W0.heap.size) (p := ⟨1, x, 0⟩) rfl HL.out rfl (HN.out) (fun hne => HC2.out _ HK1.out hne) rfl ?_ (by rw [HL.out]; omega) ?_
    · exact box_affC
    intro v' w' O1 K1
    have HO1 := Lib.hid O1
    have HKz := Lib.hid (HK1.out.nil K1)
    have s2 := Lib.hid (box_cells ((HX0.out.drew.alloc (.cells #[.int .i64 1, .string x, .int .i64 0] 42)).keep K1 (by simp)))
    have hsz : w.heap.size ≤ (W0.drew.alloc (.cells #[.int .i64 1, .string x, .int .i64 0] 42)).heap.size := HK1.out.size
    clear O1 K1
    refine hK.out _ _ (fun _ => s2.out) ?_
    clear hK
    simp only [Act.put, List.setIfInBounds_toArray, List.set_cons_zero, List.set_cons_succ]
    refine anyU_one (i := 9) (by kernel_rfl) rfl rfl ?_
    intro K hK; simp only [List.getElem_toArray, List.getElem_cons_succ, List.getElem_cons_zero]
    go_simp
    refine hK.out _ _ (fun h => absurd rfl h) ?_
    clear hK
    refine anyU_done (by kernel_rfl) ?_ _
    go_wp2
    go_ret
    exact ⟨v', rfl, HO1.out.mono hsz, HKz.out⟩

set_option maxRecDepth 100000 in
set_option maxHeartbeats 1000000 in
theorem add_text {B : Nat} (w : World) (v : Value) (l0 : List Aff) (a : Aff) (x : ByteArray) (ho : OwnA w B v (l0 ++ [a])) (hl : l0.length ≤ 1000000000) (ha : a.k = 1) (hx : a.t.size + x.size ≤ 1000000000000) :
    Calls Tryd.prog 88 #[v, .agg #[.int .i64 1, .string x, .int .i64 0]] w fun e w' => ∃ v', e = .returned v' ∧ OwnA w' w.heap.size v' (l0 ++ [⟨a.k, a.t ++ x, a.c⟩]) ∧ Keep [] w w' := by
  obtain ⟨A, cap, hv, h1, h2, h3⟩ := ho.reads
  subst hv
  obtain ⟨b, o, rfl, hlt, hc⟩ := h3 (by simp)
  obtain ⟨m, hm⟩ : ∃ m, l0.length = m := ⟨_, rfl⟩
  have hlm : (l0 ++ [a]).length = m + 1 := by simp [hm]
  rw [hlm] at h1 ⊢
  have c0 : w.cell? ⟨b, o + m * 3, none⟩ = some (.int .i64 1) := by
    have := hc _ _ (affC_at (l0 ++ [a]) l0.length a (by simp)).1
    rwa [hm, ha] at this
  have HC : ∀ W, Keep [] w W → Hid (∀ j u, (affC (l0 ++ [a]))[j]? = some u → W.cell? ⟨b, o + j, none⟩ = some u) := fun W hk j u hu => (hk.cell (p := ⟨b, o + j, none⟩) hlt (by simp)).trans (hc j u hu)
  have HLm := Lib.hid hlm
  have HM := Lib.hid hm
  have HA := Lib.hid ha
  unfold maxLen at h2
  rw [hm] at hl
  clear h3 hc hlm ho hm ha
  have ha1 : (m : Int) + 1 ≤ cap := by omega
  have HX0 : Hid (Blk (w.alloc (.cells #[.int .i64 1, .string x, .int .i64 0] 42)) w.heap.size 42 #[.int .i64 1, .string x, .int .i64 0]) := Blk.new _ _ _
  have HK0 : Hid (Keep [] w (w.alloc (.cells #[.int .i64 1, .string x, .int .i64 0] 42))) := (Keep.refl [] w).alloc _
  have HS0 : Hid ((w.alloc (.cells #[.int .i64 1, .string x, .int .i64 0] 42)).heap.size = w.heap.size + 1) := by simp [Hid]
  have hBX : w.heap.size + 1 ≤ ((w.alloc (.cells #[.int .i64 1, .string x, .int .i64 0] 42)).alloc (.cells #[] 42)).heap.size := by simp
  go_enter Tryd.func88, Tryd.ntmps88
  go_upto_region 4 with (at_builtin; refine wpList_append_copy rfl _ _ rfl (B := w.heap.size + 1) (b := w.heap.size + 1) (c := 0) (l := l0 ++ [a]) rfl (empty_own _ _ HS0.out) HLm.out rfl (HC _ (HK0.out.alloc _)).out (by rw [HLm.out]; omega) hBX ?_; intro v' w1 O1 K1)
  obtain ⟨A1, cap1, rfl, hf1⟩ := O1.form
  obtain ⟨g, rfl, hg1, hg2⟩ := hf1 (by simp)
  have hca := affC_at (l0 ++ [a]) l0.length a (by simp)
  rw [HM.out] at hca
  have d1 : w1.cell? ⟨g, m * 3 + 1, none⟩ = some (.string a.t) := by rw [World.ownsRow.cellAt O1 _ (by rw [HLm.out]; omega), hca.2.1]
  have df : w1.frozen? ⟨g, m * 3 + 1, none⟩ = false := World.ownsRow.frozenAt O1 _
  rw [HLm.out]
  have HO1 := Lib.hid O1
  have HX1 := Lib.hid ((HX0.out.alloc (.cells #[] 42)).keep K1 (by simp))
  have HK1 := Lib.hid ((HK0.out.alloc (.cells #[] 42)).trans K1 (fun x hx => .inr (by simp at hx; omega)))
  have x1 := (box_cells HX1.out).2.1
  clear O1 hca K1 hf1 hBX
  have hm0 : (0 : Int) ≤ (m : Int) := by omega
  have hm1 : (m : Int) < (m : Int) + 1 := by omega
  have hsum : IntKind.i64.wrap (m : Int) = m := IntWalk.i64_in _ (by omega)
  have hov : ¬ 9223372036854775807 < a.t.size + x.size := by omega
  refine wp_region_U (fun W => W.cell? ⟨g, m * 3 + 1, none⟩ = some (.string a.t) ∧ W.cell? ⟨w.heap.size, 1, none⟩ = some (.string x)) 11 (by kernel_rfl) ?_
  have s0 : Hid (w1.drew.cell? ⟨g, m * 3 + 1, none⟩ = some (.string a.t) ∧ w1.drew.cell? ⟨w.heap.size, 1, none⟩ = some (.string x)) := ⟨d1, x1⟩
  refine anyU_take (i := 0) (v := ?v15) [3,4,5,8] rfl (by kernel_rfl) (by kernel_rfl) (by kernel_rfl) (fun _ _ _ h => h) (by kernel_rfl) (by kernel_rfl) s0.out (Or.inl ⟨by rfl, ?hy15⟩) ?rest15
  case hy15 => (intro W hW; obtain ⟨hW1, hW2⟩ := hW; go_simp <;> with_reducible rfl)
  simp only [Act.put, List.getElem_toArray, List.getElem_cons_zero, List.setIfInBounds_toArray, List.set_cons_zero, List.set_cons_succ]
  refine anyU_take (i := 1) (v := ?v16) [2,3,4,5,8] rfl (by kernel_rfl) (by kernel_rfl) (by kernel_rfl) (fun _ _ _ h => h) (by kernel_rfl) (by kernel_rfl) s0.out (Or.inl ⟨by rfl, ?hy16⟩) ?rest16
  case hy16 => (intro W hW; obtain ⟨hW1, hW2⟩ := hW; go_simp <;> with_reducible rfl)
  simp only [Act.put, List.getElem_toArray, List.getElem_cons_succ, List.getElem_cons_zero, List.setIfInBounds_toArray, List.set_cons_zero, List.set_cons_succ]
  refine anyU_take (i := 2) (v := ?v17) [3,4,5,8] rfl (by kernel_rfl) (by kernel_rfl) (by kernel_rfl) (fun _ _ _ h => h) (by kernel_rfl) (by kernel_rfl) s0.out (Or.inl ⟨by rfl, ?hy17⟩) ?rest17
  case hy17 => (intro W hW; obtain ⟨hW1, hW2⟩ := hW; go_simp <;> with_reducible rfl)
  simp only [Act.put, List.getElem_toArray, List.getElem_cons_succ, List.getElem_cons_zero, List.setIfInBounds_toArray, List.set_cons_zero, List.set_cons_succ]
  refine anyU_take (i := 3) (v := ?v18) [4,5,8] rfl (by kernel_rfl) (by kernel_rfl) (by kernel_rfl) (fun _ _ _ h => h) (by kernel_rfl) (by kernel_rfl) s0.out (Or.inl ⟨by rfl, ?hy18⟩) ?rest18
  case hy18 => (intro W hW; obtain ⟨hW1, hW2⟩ := hW; go_simp <;> with_reducible rfl)
  simp only [Act.put, List.getElem_toArray, List.getElem_cons_succ, List.getElem_cons_zero, List.setIfInBounds_toArray, List.set_cons_zero, List.set_cons_succ]
  refine anyU_take (i := 4) (v := ?v19) [5,8] rfl (by kernel_rfl) (by kernel_rfl) (by kernel_rfl) (fun _ _ _ h => h) (by kernel_rfl) (by kernel_rfl) s0.out (Or.inl ⟨by rfl, ?hy19⟩) ?rest19
  case hy19 => (intro W hW; obtain ⟨hW1, hW2⟩ := hW; go_simp <;> with_reducible rfl)
  simp only [Act.put, List.getElem_toArray, List.getElem_cons_succ, List.getElem_cons_zero, List.setIfInBounds_toArray, List.set_cons_zero, List.set_cons_succ]
  refine anyU_take (i := 5) (v := ?v20) [8] rfl (by kernel_rfl) (by kernel_rfl) (by kernel_rfl) (fun _ _ _ h => h) (by kernel_rfl) (by kernel_rfl) s0.out (Or.inl ⟨by rfl, ?hy20⟩) ?rest20
  case hy20 => (intro W hW; obtain ⟨hW1, hW2⟩ := hW; go_simp <;> with_reducible rfl)
  simp only [Act.put, List.getElem_toArray, List.getElem_cons_succ, List.getElem_cons_zero, List.setIfInBounds_toArray, List.set_cons_zero, List.set_cons_succ]
  refine anyU_take (i := 6) (v := ?v21) [7,8] rfl (by kernel_rfl) (by kernel_rfl) (by kernel_rfl) (fun _ _ _ h => h) (by kernel_rfl) (by kernel_rfl) s0.out (Or.inl ⟨by rfl, ?hy21⟩) ?rest21
  case hy21 => (intro W hW; obtain ⟨hW1, hW2⟩ := hW; go_simp <;> with_reducible rfl)
  simp only [Act.put, List.getElem_toArray, List.getElem_cons_succ, List.getElem_cons_zero, List.setIfInBounds_toArray, List.set_cons_zero, List.set_cons_succ]
  refine anyU_take (i := 7) (v := ?v22) [8] rfl (by kernel_rfl) (by kernel_rfl) (by kernel_rfl) (fun _ _ _ h => h) (by kernel_rfl) (by kernel_rfl) s0.out (Or.inl ⟨by rfl, ?hy22⟩) ?rest22
  case hy22 => (intro W hW; obtain ⟨hW1, hW2⟩ := hW; go_simp <;> with_reducible rfl)
  simp only [Act.put, List.getElem_toArray, List.getElem_cons_succ, List.getElem_cons_zero, List.setIfInBounds_toArray, List.set_cons_zero, List.set_cons_succ]
  refine anyU_take (i := 8) (v := ?v23) [] rfl (by kernel_rfl) (by kernel_rfl) (by kernel_rfl) (fun _ _ _ h => h) (by kernel_rfl) (by kernel_rfl) s0.out (Or.inl ⟨by rfl, ?hy23⟩) ?rest23
  case hy23 => (intro W hW; obtain ⟨hW1, hW2⟩ := hW; go_simp <;> with_reducible rfl)
  simp only [Act.put, List.getElem_toArray, List.getElem_cons_succ, List.getElem_cons_zero, List.setIfInBounds_toArray, List.set_cons_zero, List.set_cons_succ]
  refine anyU_take (i := 9) (v := ?v24) [10] rfl (by kernel_rfl) (by kernel_rfl) (by kernel_rfl) (fun _ _ _ h => h) (by kernel_rfl) (by kernel_rfl) s0.out (Or.inl ⟨by rfl, ?hy24⟩) ?rest24
  case hy24 => (intro W hW; obtain ⟨hW1, hW2⟩ := hW; go_simp <;> with_reducible rfl)
  simp only [Act.put, List.getElem_toArray, List.getElem_cons_succ, List.getElem_cons_zero, List.setIfInBounds_toArray, List.set_cons_zero, List.set_cons_succ]
  refine anyU_take (i := 10) (v := ?v25) [] rfl (by kernel_rfl) (by kernel_rfl) (by kernel_rfl) (fun _ _ _ h => h) (by kernel_rfl) (by kernel_rfl) s0.out (Or.inl ⟨by rfl, ?hy25⟩) ?rest25
  case hy25 => (intro W hW; obtain ⟨hW1, hW2⟩ := hW; go_simp <;> with_reducible rfl)
  simp only [Act.put, List.getElem_toArray, List.getElem_cons_succ, List.getElem_cons_zero, List.setIfInBounds_toArray, List.set_cons_zero, List.set_cons_succ]
  refine anyU_one (i := 11) (by kernel_rfl) rfl rfl ?_
  intro K hK; simp only [List.getElem_toArray, List.getElem_cons_succ, List.getElem_cons_zero]
  go_simp
  refine hK.out _ _ (fun h => absurd rfl h) ?_
  clear hK
  refine anyU_done (by kernel_rfl) ?_ _
  clear hsum
  go_wp2
  go_ret
  have hst := HO1.out.stored (m * 3 + 1) (.string (a.t ++ x))
  refine ⟨_, rfl, ?_, (HK1.out.drew).setCell (.inr (by simp; omega)) _⟩
  have h1 := hst.1
  rw [← HM.out, affC_set_text, HM.out, HLm.out] at h1
  have h2 : OwnA (w1.setCell ⟨g, m * 3 + 1, none⟩ (.string (a.t ++ x))) (w.heap.size + 1) (.slice (some ⟨g, 0, none⟩) (m + 1) cap1) (l0 ++ [⟨a.k, a.t ++ x, a.c⟩]) := by
    unfold OwnA
    rw [show (l0 ++ [(⟨a.k, a.t ++ x, a.c⟩ : Aff)]).length = m + 1 by simp [HM.out]]
    exact h1
  exact h2.mono (Nat.le_succ _)
/-- The reference's add, of a text. -/
theorem radd_any {B : Nat} (w : World) (v : Value) (l : List Aff) (x : ByteArray) (ho : OwnA w B v l) (hl : l.length ≤ 1000000000) (ht : ∀ a ∈ l, a.t.size ≤ 100000000000) (hx : x.size ≤ 100000000000) :
    Calls Tryd.prog 88 #[v, .agg #[.int .i64 1, .string x, .int .i64 0]] w fun e w' => ∃ v', e = .returned v' ∧ OwnA w' w.heap.size v' (textAdd l x) ∧ Keep [] w w' := by
  rcases nil_or_snoc l with rfl | ⟨l0, a, rfl⟩
  · have h := add_new w v [] x ho hl (fun a h => by cases h)
    rw [textAdd_new [] x (fun a h => by cases h)]
    exact h
  · by_cases hk : a.k = 1
    · have h := add_text w v l0 a x ho (by simp at hl; omega) hk (by have := ht a (by simp); omega)
      rw [textAdd_text l0 a x hk]
      exact h
    · have hn : ∀ b, (l0 ++ [a]).getLast? = some b → b.k ≠ 1 := fun b hb => by simp at hb; rw [← hb]; exact hk
      have h := add_new w v _ x ho hl hn
      rw [textAdd_new _ x hn]
      exact h
end Go.Proofs.YtkkglaglnfebjaaDoor
