/- Walks: numpat.text. -/
import Derived.Test.YtkkglaglnfebjaaDoorWRd
import Derived.Test.YtkkglaglnfebjaaDoorNP
namespace Go.Proofs.YtkkglaglnfebjaaDoor
open Go.RowKit

theorem infoAffix : (Tryd.prog.info? 42).map (fun i => (i.zero, i.size, i.bytes)) = some (some (.agg #[.int .i64 0, .string ⟨#[]⟩, .int .i64 0]), 3, 32) := by kernel_rfl
theorem new_cells (w : World) (n : Nat) (hn : w.heap.size = n) (xs : List Value) (t : TypeId) : ∀ j u, xs[j]? = some u → (w.alloc (.cells xs.toArray t)).cell? ((⟨n, 0, none⟩ : Addr).add j) = some u := by
  intro j u hu
  have hadd : (⟨n, 0, none⟩ : Addr).add j = ⟨n, j, none⟩ := by unfold Addr.add; split <;> simp_all
  rw [hadd]
  exact (Blk.new' w t xs.toArray n hn).cell_eq (by simpa using hu)
theorem nil_or_snoc {α : Type} (l : List α) : l = [] ∨ ∃ l0 a, l = l0 ++ [a] := by
  rcases List.eq_nil_or_concat l with h | ⟨l0, a, h⟩
  · exact .inl h
  · exact .inr ⟨l0, a, by rw [h, List.concat_eq_append]⟩
/-- append of one piece, made just now, to a slice of the call's own. -/
theorem wpList_append_aff {ops : Array Oper} {rest : List Oper} {o : Oper} {a : Act} {Q : Exit → Act → World → Prop} (hgd : o.guard = none) (s x : Operand)
    (ho : o.op = .call { callee := .builtin .append, args := #[s, x], argTypes := #[23, 23] })
    {w0 : World} {B : Nat} {v : Value} {l : List Aff} (hs : a.eval s = v) (hown : OwnA w0 B v l) (n : Nat) (hn : w0.heap.size = n) (p : Aff) (hx : a.eval x = .slice (some ⟨n, 0, none⟩) 1 1)
    (hlen : l.length ≤ 1000000000000) (hB : B ≤ w0.heap.size)
    (h : ∀ v' w', OwnA w' B v' (l ++ [p]) → Keep v.ownBlock.toList w0 w' → wpList Tryd.prog ops Q rest (a.put o.dst v') w') : wpList Tryd.prog ops Q (o :: rest) a (w0.alloc (.cells p.cells.toArray 42)) := by
  obtain ⟨i0, hi, hz0, hz1, hz2⟩ := info_parts infoAffix
  refine wpList_append_own _ hgd s x 23 ho B 42 i0 _ 3 32 Tryd.underlying23 hi hz0 hz1 hz2 rfl (by decide) v l.length (affC l) hs (World.ownsRow.alloc hown _) ⟨n, 0, none⟩ 1 1 p.cells hx rfl (new_cells w0 n hn _ _) ?_ (by unfold maxLen; omega) (by omega) (by simp; omega) ?_
  · intro u hu
    simp only [Aff.cells, List.mem_cons, List.mem_nil_iff, or_false] at hu
    rcases hu with rfl | rfl | rfl <;> rfl
  · intro v' w' h1 h2 _
    refine h v' w' ?_ (((Keep.refl _ w0).alloc _).grown h2 fun k hk => .inl (by simpa using hk))
    unfold OwnA
    rw [affC_append, affC_one]
    simpa using h1

set_option maxRecDepth 100000 in
set_option maxHeartbeats 400000 in
theorem text_same {B : Nat} (w : World) (v : Value) (l : List Aff) (a : Aff) (x : ByteArray) (ho : OwnA w B v (l ++ [a])) (ha : a.k = 1) (hx : a.t.size + x.size ≤ 1000000000000) :
    Calls Tryd.prog 118 #[v, .string x] w fun e w' => ∃ v', e = .returned v' ∧ OwnA w' B v' (l ++ [⟨a.k, a.t ++ x, a.c⟩]) ∧ Keep v.ownBlock.toList w w' := by
  have ho' := ho
  unfold OwnA at ho'
  rcases ho'.2 with ⟨_, h0⟩ | ⟨g, cap, cur, rfl, hB, hg, hn, hcap, hsz, htk⟩
  · simp at h0
  have hl : (l ++ [a]).length = l.length + 1 := by simp
  rw [hl] at ho' hn
  have hca := affC_at (l ++ [a]) l.length a (by simp)
  have hcell : ∀ j, j < (l.length + 1) * 3 → w.cell? ⟨g, j, none⟩ = (affC (l ++ [a]))[j]? := fun j hj => ho'.cellAt j (by omega)
  have c0 : w.cell? ⟨g, l.length * 3, none⟩ = some (.int .i64 1) := by rw [hcell _ (by omega), hca.1, ha]
  have c1 : w.cell? ⟨g, l.length * 3 + 1, none⟩ = some (.string a.t) := by rw [hcell _ (by omega), hca.2.1]
  have f1 : w.frozen? ⟨g, l.length * 3 + 1, none⟩ = false := ho'.frozenAt _
  have hk : (0 : Int) ≤ (l.length : Int) + 1 - 1 := by omega
  unfold maxLen at hcap
  have hlb : l.length < 9223372036854775807 := by omega
  have H := Lib.hid ho'
  clear hcell hca ho htk hg ho' hl ha
  rw [show (l ++ [a]).length = l.length + 1 from by simp]
  go_enter Tryd.func118, Tryd.ntmps118
  go_wp2
  go_ret
  have hst := H.out.stored (l.length * 3 + 1) (.string (a.t ++ x))
  refine ⟨_, rfl, ?_, ((Keep.refl _ _).setCell (.inl (by simp [Value.ownBlock])) _)⟩
  have h1 := hst.1
  rw [affC_set_text] at h1
  unfold OwnA
  rw [show (l ++ [(⟨a.k, a.t ++ x, a.c⟩ : Aff)]).length = l.length + 1 from by simp]
  exact h1

set_option maxRecDepth 100000 in
set_option maxHeartbeats 400000 in
theorem text_new {B : Nat} (w : World) (v : Value) (l : List Aff) (x : ByteArray) (ho : OwnA w B v l) (hB : B ≤ w.heap.size) (hl : l.length ≤ 1000000000000) (hn : ∀ a, l.getLast? = some a → a.k ≠ 1) :
    Calls Tryd.prog 118 #[v, .string x] w fun e w' => ∃ v', e = .returned v' ∧ OwnA w' B v' (l ++ [⟨1, x, 0⟩]) ∧ Keep v.ownBlock.toList w w' := by
  obtain ⟨A, cap, rfl, hA⟩ := ho.form
  have H := Lib.hid ho
  rcases nil_or_snoc l with rfl | ⟨l0, a, rfl⟩
  · clear ho hA hn
    have k0 : ((0 : Int) ≤ -1) = False := by simp
    go_enter Tryd.func118, Tryd.ntmps118
    go_wp2_with (at_builtin; refine wpList_append_aff rfl _ _ rfl rfl H.out _ rfl ⟨1, x, 0⟩ rfl hl hB ?_; intro v' w' h1 h2)
    go_ret
    exact ⟨_, rfl, h1, h2⟩
  · obtain ⟨g, rfl, hg, hgl⟩ := hA (by simp)
    have hca := affC_at (l0 ++ [a]) l0.length a (by simp)
    have c0 : w.cell? ⟨g, l0.length * 3, none⟩ = some (.int .i64 a.k) := by
      rw [World.ownsRow.cellAt ho _ (by simp), hca.1]
    have hk : (a.k == 1) = false := by simpa using hn a (by simp)
    have hl' : l0.length + 1 ≤ 1000000000000 := by simpa using hl
    clear hca hn hA ho
    go_enter Tryd.func118, Tryd.ntmps118
    go_wp2_with (at_builtin; refine wpList_append_aff rfl _ _ rfl rfl H.out _ rfl ⟨1, x, 0⟩ rfl hl hB ?_; intro v' w' h1 h2)
    go_ret
    exact ⟨_, rfl, h1, h2⟩

/-- numpat.text. -/
theorem text_any {B : Nat} (w : World) (v : Value) (l : List Aff) (x : ByteArray) (ho : OwnA w B v l) (hB : B ≤ w.heap.size) (hl : l.length ≤ 1000000000000) (ht : ∀ a ∈ l, a.t.size ≤ 100000000000) (hx : x.size ≤ 100000000000) :
    Calls Tryd.prog 118 #[v, .string x] w fun e w' => ∃ v', e = .returned v' ∧ OwnA w' B v' (textAdd l x) ∧ Keep v.ownBlock.toList w w' := by
  rcases nil_or_snoc l with rfl | ⟨l0, a, rfl⟩
  · have h := text_new w v [] x ho hB hl (fun a h => by cases h)
    rw [textAdd_new [] x (fun a h => by cases h)]
    exact h
  · by_cases hk : a.k = 1
    · have h := text_same w v l0 a x ho hk (by have := ht a (by simp); omega)
      rw [textAdd_text l0 a x hk]
      exact h
    · have hn : ∀ b, (l0 ++ [a]).getLast? = some b → b.k ≠ 1 := fun b hb => by simp at hb; rw [← hb]; exact hk
      have h := text_new w v _ x ho hB hl hn
      rw [textAdd_new _ x hn]
      exact h
end Go.Proofs.YtkkglaglnfebjaaDoor
