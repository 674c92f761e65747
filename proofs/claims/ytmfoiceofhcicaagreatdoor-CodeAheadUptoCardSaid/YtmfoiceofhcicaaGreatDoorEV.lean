/- The ground of the calls of layer 19: the library's variables, too. No walk. -/
import Derived.Test.YtmfoiceofhcicaaGreatDoorBase
import Derived.Test.YtmfoiceofhcicaaGreatDoorShelf
import Derived.Lib.AppendIntMem
namespace Go.Proofs.YtmfoiceofhcicaaGreatDoor
open Go.RowKit

/-- The library's variables that the calls read. -/
structure Vars (w : World) : Prop where
  pow : Lib.TabIs Tryz.prog w "internal/strconv.uint64pow10" .u64 Lib.pow10Tab
  sp : Lib.TabIs Tryz.prog w "strings.asciiSpace" .u8 Lib.asciiSpaceTab
  syn : ∃ ev, w.cell? ⟨4, 0, none⟩ = some ev ∧ (ev = .nilIface ∨ ∃ te pe, ev = .iface te pe)
  rng : ∃ ev, w.cell? ⟨5, 0, none⟩ = some ev ∧ (ev = .nilIface ∨ ∃ te pe, ev = .iface te pe)
  ml : ∃ m, w.cell? ⟨2, 0, none⟩ = some (.int .i64 m)
theorem named_pow : Tryz.prog.globalNamed "internal/strconv.uint64pow10" = some 3 := by kernel_rfl
theorem named_sp : Tryz.prog.globalNamed "strings.asciiSpace" = some 0 := by kernel_rfl
theorem tab_below {B : Nat} {w w' : World} {name : String} {k : IntKind} {zs : List Int} {g : Nat} (h : Lib.TabIs Tryz.prog w name k zs) (hn : Tryz.prog.globalNamed name = some g) (hb : Below B w w') (hg : g < B) : Lib.TabIs Tryz.prog w' name k zs := by
  unfold Lib.TabIs World.var? at h ⊢
  rw [hn] at h ⊢
  simp only [Option.bind_some] at h ⊢
  rw [hb.block g hg]
  exact h
/-- The ground of a call: its own blocks lie from B on; the tables and variables of the library stand. -/
structure EnvM (B : Nat) (w : World) : Prop where
  env : Env B w
  vars : Vars w
section
variable {B : Nat} {w w' : World} {bs : List Nat}
theorem EnvM.below (h : EnvM B w) (hb : Below B w w') : EnvM B w' :=
  have hl := h.env.lt
  ⟨h.env.below hb, tab_below h.vars.pow named_pow hb (by omega), tab_below h.vars.sp named_sp hb (by omega),
    let ⟨ev, h1, h2⟩ := h.vars.syn; ⟨ev, (hb.cell (p := ⟨4, 0, none⟩) (by simp; omega)).trans h1, h2⟩,
    let ⟨ev, h1, h2⟩ := h.vars.rng; ⟨ev, (hb.cell (p := ⟨5, 0, none⟩) (by simp; omega)).trans h1, h2⟩,
    let ⟨m, h1⟩ := h.vars.ml; ⟨m, (hb.cell (p := ⟨2, 0, none⟩) (by simp; omega)).trans h1⟩⟩
theorem EnvM.keep (h : EnvM B w) (hk : Keep bs w w') (hs : ∀ x ∈ bs, B ≤ x) : EnvM B w' := h.below (hk.below hs h.env.le)
theorem EnvM.drewN (h : EnvM B w) (n : Nat) : EnvM B (w.drewN n) := h.keep (bs := []) ((Keep.refl _ _).drewN n) (by simp)
theorem below_itoa (w : World) (k : Nat) (os : Array Obj) : Below w.heap.size w (Go.Sort.grow (w.drewN k) os) := Lib.below_grow _ w (Nat.le_refl _) k os
end
end Go.Proofs.YtmfoiceofhcicaaGreatDoor
