/- Walks: slices.Clone of pieces. -/
import Derived.Test.YtkkglaglnfebjaaDoorWCopied
namespace Go.Proofs.YtkkglaglnfebjaaDoor
open Go.RowKit Go.IntWalk

set_option maxRecDepth 100000 in
set_option maxHeartbeats 400000 in
theorem clone_some (w : World) (ad : Addr) (cap : Nat) (l : List Aff) (h : RdA w (.slice (some ad) l.length cap) l) (hl : l.length ≤ 1000000000) :
    Calls Tryd.prog 57 #[.slice (some ad) l.length cap] w fun e w' => ∃ v, e = .returned v ∧ OwnA w' w.heap.size v l ∧ Keep [] w w' := by
  obtain ⟨i0, hi, hz0, hz1, hz2⟩ := info_parts infoAffix
  have A : Aside (∀ j u, (affC l)[j]? = some u → w.cell? (ad.add j) = some u) := by
    intro j u hu
    obtain ⟨A', cap', he, _, _, hc⟩ := h
    injection he with e1 e2 e3
    subst e1 e3
    have hne : l ≠ [] := by rintro rfl; simp [affC] at hu
    obtain ⟨b, o, e4, _, hc2⟩ := hc hne
    obtain rfl := Option.some.inj e4
    rw [addr_add]
    exact hc2 j u hu
  clear h
  have q22 : ∀ (w : World) (a : Option Addr) (n c n' c' : Nat), (binOp .eql 23 (.slice a n c) (.slice none n' c')).run Tryd.prog w = .ok (.bool a.isNone) w := fun w a n c n' c' => Lib.run_eql_slice_nil w _ _ a n c n' c' Tryd.underlying23
  go_enter Tryd.func57, Tryd.ntmps57
  go_wp2_with (at_builtin; refine wpList_append_own _ rfl _ _ 23 rfl w.heap.size 42 i0 _ 3 32 Tryd.underlying23 hi hz0 hz1 hz2 rfl (by decide) _ _ _ rfl (World.ownsRow_made w #[] 0 (Nat.le_refl _) (Nat.zero_le _) (by simp)) ad l.length cap (affC l) rfl ?qc1 ?qc2 ?qc3 ?qc4 ?qc5 ?qc6 ?_)
  case qc1 => exact affC_length l
  case qc2 =>
    intro j u hj
    exact Lib.cell?_alloc_some _ (A.out j u hj)
  case qc3 => exact affC_one_cell l
  case qc4 => unfold maxLen; omega
  case qc5 => omega
  case qc6 => simp
  intro v' w1 hown hgrow hnil
  go_wp2
  go_ret
  refine ⟨v', rfl, ?_, ?_⟩
  · unfold OwnA
    simpa using hown
  · exact (((Keep.refl [] w).alloc _).grown hgrow fun k hk => .inr (by simp [Value.ownBlock] at hk; omega))
set_option maxRecDepth 100000 in
theorem clone_any (w : World) (A : Option Addr) (n cap : Nat) (l : List Aff) (h : RdA w (.slice A n cap) l) (hnil : A = none → n = 0 ∧ cap = 0) (hl : l.length ≤ 1000000000) :
    Calls Tryd.prog 57 #[.slice A n cap] w fun e w' => ∃ v, e = .returned v ∧ OwnA w' w.heap.size v l ∧ Keep [] w w' := by
  obtain ⟨rfl, _, _⟩ := h.len
  cases A with
  | some ad => exact clone_some w ad cap l h hl
  | none =>
    obtain ⟨h1, rfl⟩ := hnil rfl
    have : l = [] := List.eq_nil_of_length_eq_zero h1
    subst this
    clear h hnil hl
    have q22 : ∀ (w : World) (a : Option Addr) (n c n' c' : Nat), (binOp .eql 23 (.slice a n c) (.slice none n' c')).run Tryd.prog w = .ok (.bool a.isNone) w := fun w a n c n' c' => Lib.run_eql_slice_nil w _ _ a n c n' c' Tryd.underlying23
    go_enter Tryd.func57, Tryd.ntmps57
    go_wp2
    go_ret
    exact ⟨_, rfl, World.ownsRow_nil w _ _ 3, Keep.refl _ _⟩
end Go.Proofs.YtkkglaglnfebjaaDoor
