/- Walks: Names at one text part. -/
import Derived.Test.YtjldgcpmdcoejaaGreatDoorTS
import Derived.Laws.EntriesVeiled
namespace Go.Proofs.YtjldgcpmdcoejaaGreatDoor
open Go.RowKit

set_option maxRecDepth 100000 in
theorem cases_text (s : ByteArray) (A : Option Addr) (m c : Nat) (w : World) :
    Calls Tryz.prog 46 #[.agg #[.int .i64 1, .string s, .string ⟨#[]⟩, .string ⟨#[]⟩, .string ⟨#[]⟩, .int .i64 0, .slice A m c]] w fun e w' => e = .returned (.slice none 0 0) ∧ Keep [] w w' := by
  go_enter Tryz.func46, Tryz.ntmps46
  go_wp2
  go_ret
  exact ⟨rfl, (Keep.refl _ _).alloc _⟩
set_option maxRecDepth 100000 in
/-- Names' walk at one text part: nothing is added. -/
theorem names1_text (s : ByteArray) (Ac : Option Addr) (cap mc cc : Nat) (W : World) (b o : Nat) (g h : Addr) (hb : b < W.heap.size) (a0 : W.cell? ⟨b, o, none⟩ = some (.int .i64 1)) (a1 : W.cell? ⟨b, o + 1, none⟩ = some (.string s)) (a2 : W.cell? ⟨b, o + 2, none⟩ = some (.string ⟨#[]⟩)) (a3 : W.cell? ⟨b, o + 3, none⟩ = some (.string ⟨#[]⟩)) (a4 : W.cell? ⟨b, o + 4, none⟩ = some (.string ⟨#[]⟩)) (a5 : W.cell? ⟨b, o + 5, none⟩ = some (.int .i64 0)) (a6 : W.cell? ⟨b, o + 6, none⟩ = some (.slice Ac mc cc)) :
    Calls Tryz.prog 42 #[.slice (some ⟨b, o, none⟩) 1 cap, .pointer (some g), .pointer (some h)] W fun e w' => e = .returned (.tuple #[]) ∧ Keep [] W w' := by
  go_enter Tryz.func42, Tryz.ntmps42
  go_wp2
  go_loopw [11] (fun i wr => (i = .int .i64 0 ∨ i = .int .i64 1) ∧ Keep [] W wr) (fun i _ => 1 - (intOf i).toNat)
  case atStart => exact ⟨.inl rfl, Keep.refl _ _⟩
  case round =>
    obtain ⟨hi, hK⟩ := hrel
    have HK := Lib.hid hK
    rcases hi with rfl | rfl
    · have c0 := (hK.cell (p := ⟨b, o, none⟩) hb (by simp)).trans a0
      have c1 := (hK.cell (p := ⟨b, o + 1, none⟩) hb (by simp)).trans a1
      have c2 := (hK.cell (p := ⟨b, o + 2, none⟩) hb (by simp)).trans a2
      have c3 := (hK.cell (p := ⟨b, o + 3, none⟩) hb (by simp)).trans a3
      have c4 := (hK.cell (p := ⟨b, o + 4, none⟩) hb (by simp)).trans a4
      have c5 := (hK.cell (p := ⟨b, o + 5, none⟩) hb (by simp)).trans a5
      have c6 := (hK.cell (p := ⟨b, o + 6, none⟩) hb (by simp)).trans a6
      have hk1 : Keep [] wr (wr.alloc (.cells #[.int .i64 1, .string s, .string ⟨#[]⟩, .string ⟨#[]⟩, .string ⟨#[]⟩, .int .i64 0, .slice Ac mc cc] 47)) := (Keep.refl [] wr).alloc _
      clear a0 a1 a2 a3 a4 a5 a6 hK
      go_wp2_with (go_at_call 46; refine (cases_text s Ac mc cc _).mono ?_; rintro e w2 ⟨rfl, hk2⟩; have HK2 := Lib.hid (HK.out.nil (hk1.nil hk2)); clear hk2)
      go_loopw [51] (fun i wr => i = .int .i64 0 ∧ Keep [] W wr) (fun _ _ => 0)
      case atStart => exact ⟨rfl, HK2.out⟩
      case round =>
        obtain ⟨rfl, hK3⟩ := hrel
        go_wp2
        go_roundw
        case rel => exact ⟨.inr rfl, hK3⟩
        case measure => simp [intOf]
    · go_wp2
      go_end0
      exact ⟨rfl, HK.out⟩
set_option maxRecDepth 100000 in
/-- Names of one text: none. -/
theorem names_text (s : ByteArray) (Ac : Option Addr) (cap mc cc : Nat) (w : World) (b o : Nat) (hb : b < w.heap.size) (a0 : w.cell? ⟨b, o, none⟩ = some (.int .i64 1)) (a1 : w.cell? ⟨b, o + 1, none⟩ = some (.string s)) (a2 : w.cell? ⟨b, o + 2, none⟩ = some (.string ⟨#[]⟩)) (a3 : w.cell? ⟨b, o + 3, none⟩ = some (.string ⟨#[]⟩)) (a4 : w.cell? ⟨b, o + 4, none⟩ = some (.string ⟨#[]⟩)) (a5 : w.cell? ⟨b, o + 5, none⟩ = some (.int .i64 0)) (a6 : w.cell? ⟨b, o + 6, none⟩ = some (.slice Ac mc cc)) :
    Calls Tryz.prog 20 #[.slice (some ⟨b, o, none⟩) 1 cap] w fun e w' => e = .returned (.slice none 0 0) ∧ Keep [] w w' := by
  have hB : Blk ((w.alloc (.cells #[.slice none 0 0] 41)).alloc (.cells #[.nilFunc] 71)) (w.heap.size + 1) 71 #[.nilFunc] := Blk.new' _ _ _ _ (by simp)
  have b0 : ((w.alloc (.cells #[.slice none 0 0] 41)).alloc (.cells #[.nilFunc] 71)).cell? ⟨w.heap.size + 1, 0, none⟩ = some .nilFunc := hB.cell_eq rfl
  have zb := hB.frozen 0
  have hA3 : Blk ((w.alloc (.cells #[.slice none 0 0] 41)).alloc (.cells #[(.func (.func 42) #[] #[.pointer (some ⟨w.heap.size, 0, none⟩), .pointer (some ⟨w.heap.size + 1, 0, none⟩)])] 71)) w.heap.size 41 #[.slice none 0 0] := (Blk.new w 41 #[.slice none 0 0]).alloc _
  have hB3 : Blk ((w.alloc (.cells #[.slice none 0 0] 41)).alloc (.cells #[(.func (.func 42) #[] #[.pointer (some ⟨w.heap.size, 0, none⟩), .pointer (some ⟨w.heap.size + 1, 0, none⟩)])] 71)) (w.heap.size + 1) 71 #[(.func (.func 42) #[] #[.pointer (some ⟨w.heap.size, 0, none⟩), .pointer (some ⟨w.heap.size + 1, 0, none⟩)])] := Blk.new' _ _ _ _ (by simp)
  have b3 : ((w.alloc (.cells #[.slice none 0 0] 41)).alloc (.cells #[(.func (.func 42) #[] #[.pointer (some ⟨w.heap.size, 0, none⟩), .pointer (some ⟨w.heap.size + 1, 0, none⟩)])] 71)).cell? ⟨w.heap.size + 1, 0, none⟩ = some (.func (.func 42) #[] #[.pointer (some ⟨w.heap.size, 0, none⟩), .pointer (some ⟨w.heap.size + 1, 0, none⟩)]) := hB3.cell_eq rfl
  have hk3 : Keep [] w ((w.alloc (.cells #[.slice none 0 0] 41)).alloc (.cells #[(.func (.func 42) #[] #[.pointer (some ⟨w.heap.size, 0, none⟩), .pointer (some ⟨w.heap.size + 1, 0, none⟩)])] 71)) := ((Keep.refl [] w).alloc _).alloc _
  have hb3 : b < ((w.alloc (.cells #[.slice none 0 0] 41)).alloc (.cells #[(.func (.func 42) #[] #[.pointer (some ⟨w.heap.size, 0, none⟩), .pointer (some ⟨w.heap.size + 1, 0, none⟩)])] 71)).heap.size := by simp; omega
  have HN := Lib.hid (names1_text s Ac cap mc cc ((w.alloc (.cells #[.slice none 0 0] 41)).alloc (.cells #[(.func (.func 42) #[] #[.pointer (some ⟨w.heap.size, 0, none⟩), .pointer (some ⟨w.heap.size + 1, 0, none⟩)])] 71)) b o ⟨w.heap.size, 0, none⟩ ⟨w.heap.size + 1, 0, none⟩ hb3 ((hk3.cell (p := ⟨b, o, none⟩) hb (by simp)).trans a0) ((hk3.cell (p := ⟨b, o + 1, none⟩) hb (by simp)).trans a1) ((hk3.cell (p := ⟨b, o + 2, none⟩) hb (by simp)).trans a2) ((hk3.cell (p := ⟨b, o + 3, none⟩) hb (by simp)).trans a3) ((hk3.cell (p := ⟨b, o + 4, none⟩) hb (by simp)).trans a4) ((hk3.cell (p := ⟨b, o + 5, none⟩) hb (by simp)).trans a5) ((hk3.cell (p := ⟨b, o + 6, none⟩) hb (by simp)).trans a6))
  have HA3 := Lib.hid hA3
  have HK3 := Lib.hid hk3
  clear a0 a1 a2 a3 a4 a5 a6 hB hA3 hB3 hk3 hb3
  go_enter Tryz.func20, Tryz.ntmps20
  go_wp2_with fail
  refine HN.out.mono ?_
  rintro e w4 ⟨rfl, hk4⟩
  have hA4 := HA3.out.keep hk4 (by simp)
  have c4 : w4.cell? ⟨w.heap.size, 0, none⟩ = some (.slice none 0 0) := hA4.cell_eq rfl
  have HK4 := Lib.hid (HK3.out.nil hk4)
  clear hA4 hk4 b0 zb b3 hb
  go_wp2_with (go_at_call 47; refine (sort_nil _ _).mono ?_; rintro e w5 ⟨rfl, rfl⟩)
  go_ret
  exact ⟨rfl, HK4.out⟩
end Go.Proofs.YtjldgcpmdcoejaaGreatDoor
