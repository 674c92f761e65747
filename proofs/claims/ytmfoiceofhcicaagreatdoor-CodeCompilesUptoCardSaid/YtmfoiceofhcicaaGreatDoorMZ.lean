/- Walks: put, of the reader of messages. -/
import Derived.Test.YtmfoiceofhcicaaGreatDoorMS
import Derived.Deep.AppendLies
namespace Go.Proofs.YtmfoiceofhcicaaGreatDoor
open Go.RowKit

theorem infoPart : (Tryz.prog.info? 68).map (fun i => (i.zero, i.size, i.bytes)) = some (some (.agg #[.int .i64 0, .string ⟨#[]⟩, .string ⟨#[]⟩, .string ⟨#[]⟩, .string ⟨#[]⟩, .int .i64 0, .slice none 0 0]), 7, 104) := by kernel_rfl
theorem partC_set (l : List PT) (vs : List Value) (a : PT) (cv : Value) (y : ByteArray) (h : vs.length = l.length) : (partC (l ++ [a]) (vs ++ [cv])).set (l.length * 7 + 1) (.string y) = partC (l ++ [{ a with tx := y }]) (vs ++ [cv]) := by
  rw [partC_append _ _ _ _ h, partC_append _ _ _ _ h, ← partC_length l vs h, List.set_append_right _ _ (by omega)]
  simp [partC, PT.cells]
theorem new_cells (w : World) (n : Nat) (hn : w.heap.size = n) (xs : List Value) (t : TypeId) : ∀ j u, xs[j]? = some u → (w.alloc (.cells xs.toArray t)).cell? ((⟨n, 0, none⟩ : Addr).add j) = some u := by
  intro j u hu
  have hadd : (⟨n, 0, none⟩ : Addr).add j = ⟨n, j, none⟩ := by unfold Addr.add; split <;> simp_all
  rw [hadd]
  exact (Blk.new' w t xs.toArray n hn).cell_eq (by simpa using hu)
theorem wpList_append_part {ops : Array Oper} {rest : List Oper} {o : Oper} {a : Act} {Q : Exit → Act → World → Prop} (hgd : o.guard = none) (s x : Operand)
    (ho : o.op = .call { callee := .builtin .append, args := #[s, x], argTypes := #[22, 22] })
    {w0 : World} {f B : Nat} {S : Nat → Prop} {v : Value} {l : List PT} (hs : a.eval s = v) (hown : OwnM f S w0 B v l) (n : Nat) (hn : w0.heap.size = n) (p : PT) (cv : Value) (hx : a.eval x = .slice (some ⟨n, 0, none⟩) 1 1)
    (hcv : cv.oneCell' = true) (hch : LiesC f S w0 cv p.cs) (hS : ∀ x, S x → x < n ∧ x ∉ v.ownBlock.toList)
    (hlen : l.length ≤ 1000000) (hB : B ≤ w0.heap.size)
    (h : ∀ g cap w', OwnM f S w' B (.slice (some ⟨g, 0, none⟩) (l.length + 1) cap) (l ++ [p]) → Keep v.ownBlock.toList w0 w' → (v.ownBlock = some g ∨ g = n + 1) → g < w'.heap.size → wpList Tryz.prog ops Q rest (a.put o.dst (.slice (some ⟨g, 0, none⟩) (l.length + 1) cap)) w') :
    wpList Tryz.prog ops Q (o :: rest) a (w0.alloc (.cells (p.cells cv).toArray 68)) := by
  obtain ⟨i0, hi, hz0, hz1, hz2⟩ := info_parts infoPart
  obtain ⟨vs, hvl, how, hcl⟩ := hown
  refine wpList_append_lies _ hgd s x 22 ho B 68 i0 _ 7 104 Tryz.underlying22 hi hz0 hz1 hz2 rfl (by decide) v l.length (partC l vs) hs (World.ownsRow.alloc how _) ⟨n, 0, none⟩ 1 1 (p.cells cv) hx rfl (new_cells w0 n hn _ _) ?_ (by decide) (by unfold maxLen; omega) (by omega) (by simp; omega) (n + 1) (by simp [hn]) ?_
  · intro u hu
    simp only [PT.cells, List.mem_cons, List.mem_nil_iff, or_false] at hu
    rcases hu with rfl | rfl | rfl | rfl | rfl | rfl | rfl <;> first | rfl | exact hcv
  · intro g cap w' h1 h2 h3 h4
    have hk : Keep v.ownBlock.toList w0 w' := ((Keep.refl _ w0).alloc _).grown h2 fun k hk => .inl (by simpa using hk)
    refine h g cap w' ⟨vs ++ [cv], by simp [hvl], ?_, ?_⟩ hk h3 h4
    · rw [partC_append _ _ _ _ hvl, List.length_append]
      simpa [partC] using h1
    · intro i q u hq hu
      have key : LiesC f S w0 u q.cs := by
        rcases Nat.lt_or_ge i l.length with hh | hh
        · rw [List.getElem?_append_left hh] at hq
          rw [List.getElem?_append_left (by omega)] at hu
          exact hcl i q u hq hu
        · rw [List.getElem?_append_right hh] at hq
          rw [List.getElem?_append_right (by omega), hvl] at hu
          cases hi : i - l.length with
          | zero => rw [hi] at hq hu; simp at hq hu; subst hq; subst hu; exact hch
          | succ k => rw [hi] at hq; simp at hq
      exact key.keep hk (fun x hx hc => (hS x hc).2 hx)

theorem ownM_form {f B : Nat} {S : Nat → Prop} {w : World} {v : Value} {l : List PT} (h : OwnM f S w B v l) : ∃ A cap, v = .slice A l.length cap ∧ (l ≠ [] → ∃ gb, A = some ⟨gb, 0, none⟩ ∧ B ≤ gb ∧ gb < w.heap.size) := by
  obtain ⟨vs, _, how, _⟩ := h
  rcases how.2 with ⟨rfl, h0⟩ | ⟨g, cap, cur, rfl, hB, hg, _⟩
  · exact ⟨none, 0, by rw [h0], fun hl => absurd (List.eq_nil_of_length_eq_zero h0) hl⟩
  · exact ⟨_, _, rfl, fun _ => ⟨g, rfl, hB, (Array.getElem?_eq_some_iff.1 hg).1⟩⟩
theorem ownM_ne {f B : Nat} {S : Nat → Prop} {w : World} {v : Value} {l : List PT} (h : OwnM f S w B v l) {g : Nat} {t : TypeId} {cs : Array Value} (hg : Blk w g t cs) (hne : 68 ≠ t) : g ∉ v.ownBlock.toList := fun hx => by
  obtain ⟨vs, _, how, _⟩ := h
  exact own_blk_ne how hg hne (by simpa using hx)
theorem textP_cells (t : ByteArray) : (textP t).cells (.slice none 0 0) = [.int .i64 1, .string t, .string ⟨#[]⟩, .string ⟨#[]⟩, .string ⟨#[]⟩, .int .i64 0, .slice none 0 0] := rfl
end Go.Proofs.YtmfoiceofhcicaaGreatDoor
