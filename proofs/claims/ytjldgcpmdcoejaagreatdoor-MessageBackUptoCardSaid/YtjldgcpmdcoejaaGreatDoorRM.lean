/- The ground of layer 19's rows: the library's variables off the row's list; a world for the witness. -/
import Derived.Test.YtjldgcpmdcoejaaGreatDoorCards
import Derived.Test.YtjldgcpmdcoejaaGreatDoorTie
import Derived.Test.YtjldgcpmdcoejaaGreatDoorEV
import Derived.ProofKit
import Derived.OpenShut
import Derived.Deep.Slices
import Derived.Deep.DeepHandedRow
import Derived.Lib.LaidU8
import Derived.PinnedBridge
import Derived.SizedLaws
import Derived.Lib.SmallJoins
import Derived.Lib.LaidIn
import Derived.Lib.TrailingZeros
namespace Go.Proofs.YtjldgcpmdcoejaaGreatDoor
open Go.ChangeShapes Go.WideShapes Go.ChangeAt Go.RowKit

theorem own : ownKnob Tryz.prog.godebug = none := by kernel_rfl
theorem laidOut : laidOutB Tryz.prog = true := by kernel_rfl
theorem acc_eq : (Rows.laid_unicode_utf8_acceptRanges : DataW Unit) = Lib.acceptData := by kernel_rfl
theorem first_eq : Rows.laid_unicode_utf8_first = Lib.firstData := Pinned.utf8First_eq
theorem pow_eq : (Rows.laid_internal_strconv_uint64pow10 : DataW Unit) = Lib.tabData .u64 Lib.pow10Tab := by kernel_rfl
theorem sp_eq : (Rows.laid_strings_asciiSpace : DataW Unit) = Lib.tabData .u8 Lib.asciiSpaceTab := by kernel_rfl
/-- What the six rows list. -/
abbrev laidL : List (String × DataW Unit) := Rows.messagePlainRow.laid
theorem tab_of_reads {P : Program} {W : World} {name : String} {k : IntKind} {zs : List Int} {g : Nat} {t e : TypeId} {n : Nat}
    (hg : P.globalNamed name = some g) (hty : (P.globals[g]?).map (·.type) = some t) (ht : P.underlying t = some (.array n e)) (he : P.underlying e = some (.int k)) (hce : P.cellsOf e = 1) (hct : P.cellsOf t = n)
    (h : Lib.VarReads P W name (Lib.tabData k zs)) : Lib.TabIs P W name k zs := by
  obtain ⟨g', t', cs, fuel, p, hg', ht', hvar, hd⟩ := h
  obtain rfl := Option.some.inj (hg.symm.trans hg')
  obtain rfl := Option.some.inj (hty.symm.trans ht')
  unfold Lib.TabIs
  rw [hvar, ← Lib.cells_of_tab ht he hce hct hd]
theorem ev_of_reads {P : Program} {W : World} {name nm : String} {d : DataW Unit} {g : Nat} {t : TypeId} {ms : Array (String × TypeId)}
    (hg : P.globalNamed name = some g) (hty : (P.globals[g]?).map (·.type) = some t) (ht : P.underlying t = some (.interface ms))
    (h : Lib.VarReads P W name (.iface nm d)) : ∃ ev, W.cell? ⟨g, 0, none⟩ = some ev ∧ (ev = .nilIface ∨ ∃ te pe, ev = .iface te pe) := by
  obtain ⟨g', t', cs, fuel, p, hg', ht', hvar, hd⟩ := h
  obtain rfl := Option.some.inj (hg.symm.trans hg')
  obtain rfl := Option.some.inj (hty.symm.trans ht')
  have hc := World.var?_cell hg hvar 0
  obtain ⟨l⟩ := cs
  cases fuel with
  | zero => simp [DataW.trod] at hd
  | succ fuel =>
    match l, hd, hc with
    | [], hd, _ => simp [DataW.trod, ht] at hd
    | [v], hd, hc =>
      cases v <;> first | (simp [DataW.trod, ht] at hd; done) | exact ⟨_, by simpa using hc, .inr ⟨_, _, rfl⟩⟩ | exact ⟨_, by simpa using hc, .inl rfl⟩
    | a :: b :: r, hd, _ => simp [DataW.trod, ht] at hd
/-- What the row's list gives: the tables and variables of the library; the ground of the calls. -/
theorem env_m {W : World} (h : laidMetH Tryz.prog laidL W) (hsh : W.ShapedOpen Tryz.prog) : EnvM W.heap.size W := by
  have hL : laidMet Tryz.prog laidL W := h
  have r0 := Lib.laidMet.reads hL (n := "internal/strconv.uint64pow10") (.tail _ (.tail _ (.head _)))
  have r1 := Lib.laidMet.reads hL (n := "unicode/utf8.acceptRanges") (.tail _ (.tail _ (.tail _ (.head _))))
  have r2 := Lib.laidMet.reads hL (n := "strconv.ErrRange") (.tail _ (.tail _ (.tail _ (.tail _ (.head _)))))
  have r3 := Lib.laidMet.reads hL (n := "strconv.ErrSyntax") (.tail _ (.tail _ (.tail _ (.tail _ (.tail _ (.head _))))))
  have r4 := Lib.laidMet.reads hL (n := "strings.asciiSpace") (.tail _ (.tail _ (.tail _ (.tail _ (.tail _ (.tail _ (.tail _ (.head _))))))))
  have r5 := Lib.laidMet.reads hL (n := "unicode/utf8.first") (.tail _ (.tail _ (.tail _ (.tail _ (.tail _ (.tail _ (.tail _ (.tail _ (.head _)))))))))
  rw [pow_eq] at r0
  rw [acc_eq] at r1
  rw [sp_eq] at r4
  rw [first_eq] at r5
  have hU : Lib.Utf8Tabs 3 4 W := utf8Tabs_of_reads (ρ := Tryz.lays260_ren) { Tryz.lays260 with } ⟨by kernel_rfl, by kernel_rfl, by kernel_rfl, by kernel_rfl, by kernel_rfl, by kernel_rfl, by kernel_rfl⟩ r5 r1
  have hV : Vars W := ⟨tab_of_reads named_pow (by kernel_rfl) Tryz.underlying197 Tryz.underlying136 (by kernel_rfl) (by kernel_rfl) r0,
    tab_of_reads named_sp (by kernel_rfl) Tryz.underlying147 Tryz.underlying5 (by kernel_rfl) (by kernel_rfl) r4,
    ev_of_reads (by kernel_rfl) (by kernel_rfl) Tryz.underlying102 r3,
    ev_of_reads (by kernel_rfl) (by kernel_rfl) Tryz.underlying102 r2,
    Tryz.laysM138.s1_3 W hsh⟩
  refine ⟨⟨?_, Nat.le_refl _, hU⟩, hV⟩
  obtain ⟨cs, hh, _⟩ := hsh.1 10 #[.pointer none] 162 (of_decide_eq_true (by kernel_rfl)) (by kernel_rfl)
  exact (Array.getElem?_eq_some_iff.1 hh).1

/-- A world for the witness: the settled one, the variables holding what their initialisers lay. -/
noncomputable def laidWorld (os : Os) : World :=
  let N := (World.settled Tryz.prog os).heap.size
  let w0 := World.holding Tryz.prog os ⟨#[.cells (Lib.whiteT.map fun (z : Nat) => Value.int .u16 (z : Int)).toArray 183, .cells #[.slice (some ⟨N, 0, none⟩) 7 7, .slice none 0 0, .int .i64 2] 180,
    .cells #[.string ⟨#[118, 97, 108, 117, 101, 32, 111, 117, 116, 32, 111, 102, 32, 114, 97, 110, 103, 101]⟩] 212, .cells #[.string ⟨#[105, 110, 118, 97, 108, 105, 100, 32, 115, 121, 110, 116, 97, 120]⟩] 212], #[], []⟩
  let put (h : Array Obj) (g : Nat) (cs : Array Value) : Array Obj := h.modify g fun
    | .cells _ t frozen => .cells cs t frozen
    | o => o
  let h1 := put w0.heap 3 (Lib.firstTab.map fun z => Value.int .u8 z).toArray
  let h2 := put h1 4 ((List.range 16).flatMap fun i => [Value.int .u8 (Lib.accLo i), Value.int .u8 (Lib.accHi i)]).toArray
  let h3 := put h2 1 (Lib.asciiSpaceTab.map fun z => Value.int .u8 z).toArray
  let h4 := put h3 5 (Lib.pow10Tab.map fun z => Value.int .u64 z).toArray
  let h5 := put h4 8 (Lib.deBruijn32tab.map fun (z : Nat) => Value.int .u8 (z : Int)).toArray
  let h6 := put h5 9 (Lib.deBruijn64tab.map fun (z : Nat) => Value.int .u8 (z : Int)).toArray
  let h7 := put h6 2 #[.pointer (some ⟨N + 1, 0, none⟩)]
  let h8 := put h7 7 #[.iface 210 (.pointer (some ⟨N + 2, 0, none⟩))]
  let h9 := put h8 6 #[.iface 210 (.pointer (some ⟨N + 3, 0, none⟩))]
  { w0 with heap := h9 }
theorem laid_met (os : Os) (args : Array Value) : laidMet Tryz.prog laidL ((laidWorld os).forCall (fun _ _ => 0) ⟨#[], args, []⟩).memory :=
  (LaidIn.of_run (List.range 64) 8 (by kernel_rfl) (by kernel_rfl) (by kernel_rfl) (by kernel_rfl)).met
end Go.Proofs.YtjldgcpmdcoejaaGreatDoor
