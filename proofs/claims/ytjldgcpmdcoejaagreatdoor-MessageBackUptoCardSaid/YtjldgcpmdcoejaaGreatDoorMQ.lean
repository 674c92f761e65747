/- Walks: the small methods of the reader of messages. -/
import Derived.Test.YtjldgcpmdcoejaaGreatDoorMU
import Derived.Test.YtjldgcpmdcoejaaGreatDoorBK
import Derived.Deep.RegionHeld3
import Derived.StillTailTactics
import Derived.WalkSmall
namespace Go.Proofs.YtjldgcpmdcoejaaGreatDoor
open Go.RowKit

/-- The reader in block g: the text, the place, how many parts, how many open choices, and the slice of whether # is a number. -/
def Rr (w : World) (g : Nat) (s : ByteArray) (p n d : Nat) (v : Value) : Prop := Blk w g 64 #[.string s, .int .i64 p, .int .i64 n, .int .i64 d, v]
section
variable {w w' : World} {g : Nat} {s : ByteArray} {p n d : Nat} {v : Value} {bs : List Nat}
theorem Rr.cells (h : Rr w g s p n d v) : w.cell? ⟨g, 0, none⟩ = some (.string s) ∧ w.cell? ⟨g, 1, none⟩ = some (.int .i64 p) ∧ w.cell? ⟨g, 2, none⟩ = some (.int .i64 n) ∧ w.cell? ⟨g, 3, none⟩ = some (.int .i64 d) ∧ w.cell? ⟨g, 4, none⟩ = some v ∧
    w.frozen? ⟨g, 1, none⟩ = false ∧ w.frozen? ⟨g, 2, none⟩ = false ∧ w.frozen? ⟨g, 3, none⟩ = false ∧ w.frozen? ⟨g, 4, none⟩ = false :=
  ⟨h.cell_eq rfl, h.cell_eq rfl, h.cell_eq rfl, h.cell_eq rfl, h.cell_eq rfl, h.frozen 1, h.frozen 2, h.frozen 3, h.frozen 4⟩
theorem Rr.lt (h : Rr w g s p n d v) : g < w.heap.size := Blk.lt h
theorem Rr.setAt (h : Rr w g s p n d v) (q : Nat) (x : Int) (hx : x = q) : Rr (w.setCell ⟨g, 1, none⟩ (.int .i64 x)) g s q n d v := by subst hx; exact Blk.set_ h 1 _
theorem Rr.setN (h : Rr w g s p n d v) (q : Nat) (x : Int) (hx : x = q) : Rr (w.setCell ⟨g, 2, none⟩ (.int .i64 x)) g s p q d v := by subst hx; exact Blk.set_ h 2 _
theorem Rr.setD (h : Rr w g s p n d v) (q : Nat) (x : Int) (hx : x = q) : Rr (w.setCell ⟨g, 3, none⟩ (.int .i64 x)) g s p n q v := by subst hx; exact Blk.set_ h 3 _
theorem Rr.setV (h : Rr w g s p n d v) (u : Value) : Rr (w.setCell ⟨g, 4, none⟩ u) g s p n d u := Blk.set_ h 4 _
theorem Rr.keep (h : Rr w g s p n d v) (hb : Keep bs w w') (hg : g ∉ bs) : Rr w' g s p n d v := Blk.keep h hb hg
theorem Rr.drewN (h : Rr w g s p n d v) (k : Nat) : Rr (w.drewN k) g s p n d v := h
theorem Rr.below {B : Nat} (h : Rr w g s p n d v) (hb : Below B w w') (hg : g < B) : Rr w' g s p n d v := Blk.below h hb hg
end
def rdrAt (w : World) (g : Nat) : Nat := match w.cell? ⟨g, 1, none⟩ with | some (.int _ n) => n.toNat | _ => 0
theorem Rr.at_ {w : World} {g : Nat} {s : ByteArray} {p n d : Nat} {v : Value} (h : Rr w g s p n d v) : rdrAt w g = p := by
  unfold rdrAt; rw [h.cells.2.1]; simp

set_option maxRecDepth 100000 in
set_option maxHeartbeats 400000 in
/-- on. -/
theorem on_any (w : World) (g : Nat) (s : ByteArray) (p n d : Nat) (v : Value) (b : Int) (h : Rr w g s p n d v) (hb : 0 ≤ b) :
    Calls Tryz.prog 68 #[.pointer (some ⟨g, 0, none⟩), .int .u8 b] w fun x w' => x = .returned (.bool (byt s p == b)) ∧ ∃ k, w' = w.drewN k := by
  obtain ⟨c0, c1, c2, c3, c4, _⟩ := h.cells
  have H := Lib.hid h
  clear h
  by_cases hp : p < s.size
  · have hp' : (p : Int) < s.size := by omega
    have HK := Lib.hid (byt_in hp)
    by_cases hq : ((s[p].toNat : Int) == b) = true
    · have HQ := Lib.hid hq
      go_enter Tryz.func68, Tryz.ntmps68
      go_wp2
      go_quiet (fail)
      go_wp2
      go_ret
      exact ⟨by rw [HK.out, HQ.out]; rfl, _, rfl⟩
    · have hq' : ((s[p].toNat : Int) == b) = false := by simpa using hq
      have HQ := Lib.hid hq'
      clear hq
      go_enter Tryz.func68, Tryz.ntmps68
      go_wp2
      go_quiet (fail)
      go_wp2
      go_ret
      exact ⟨by rw [HK.out, HQ.out]; rfl, _, rfl⟩
  · have hp' : decide (p < s.size) = false := by simpa using hp
    have HK : Hid ((byt s p == b) = false) := by unfold Hid; rw [byt_out (by omega)]; simp; omega
    clear hp
    go_enter Tryz.func68, Tryz.ntmps68
    go_wp2
    go_quiet (fail)
    go_wp2
    go_ret
    exact ⟨by rw [HK.out]; rfl, _, rfl⟩

/-- What ends reading: an error and its place. -/
abbrev Stop (e : Int) (p : Nat) : Ending := .panicked [{ v := .iface 59 (.agg #[.int .i64 e, .int .i64 p]), recovered := false }]
set_option maxRecDepth 100000 in
set_option maxHeartbeats 400000 in
/-- fail. -/
theorem rfail_any (w : World) (a : Value) (e : Int) (p : Nat) :
    Calls Tryz.prog 37 #[a, .int .i64 e, .int .i64 p] w fun x w' => x = Stop e p ∧ w = w' := by
  go_enter Tryz.func37, Tryz.ntmps37
  go_wp2
  exact ⟨rfl, rfl, rfl⟩

set_option maxRecDepth 100000 in
set_option maxHeartbeats 800000 in
/-- blanks. -/
theorem blanks_any (w : World) (g : Nat) (s : ByteArray) (p n d : Nat) (v : Value) (h : Rr w g s p n d v) (hp : p ≤ s.size) (hs : s.size ≤ 9223372036854775000) :
    Calls Tryz.prog 95 #[.pointer (some ⟨g, 0, none⟩)] w fun x w' => x = .returned (.tuple #[]) ∧ Rr w' g s (skip s p) n d v ∧ Keep [g] w w' := by
  have H := Lib.hid h
  clear h
  go_enter Tryz.func95, Tryz.ntmps95
  go_wp2
  go_loopw [] (fun wr => ∃ (q f : Nat), q ≤ s.size ∧ s.size ≤ q + f ∧ Rr wr g s q n d v ∧ Keep [g] w wr ∧ spanF (fun i => blI (byt s i)) f q = skip s p) (fun wr => s.size + 1 - rdrAt wr g)
  case atStart => exact ⟨p, s.size - p, hp, by omega, H.out, Keep.refl _ _, rfl⟩
  case round =>
    obtain ⟨q, f, hq, hf, hR, hK, hF⟩ := hrel
    obtain ⟨c0, c1, c2, c3, c4, f1, f2, f3, f4⟩ := hR.cells
    have HR := Lib.hid hR
    have HK := Lib.hid hK
    have HF := Lib.hid hF
    clear hR hK hF
    by_cases hlt : q < s.size
    · obtain ⟨f, rfl⟩ : ∃ f', f = f' + 1 := ⟨f - 1, by omega⟩
      have HB := Lib.hid (byt_in hlt)
      have hlt' : (q : Int) < s.size := by omega
      have hx := blank_any s[q].toNat (by omega) (by have := s[q].toNat_lt; omega)
      by_cases hbl : blI s[q].toNat = true
      · have HF2 : Hid (spanF (fun i => blI (byt s i)) f (q + 1) = skip s p) := by
          have := HF.out
          unfold spanF at this
          rw [HB.out, if_pos hbl] at this
          exact this
        rw [hbl] at hx
        have HX := Lib.hid hx
        clear hx hbl
        go_wp2
        go_quiet ((go_at_call 136; exact Calls.quiet_of_same ((HX.out _).mono (fun e w' h => ⟨h.1, h.2.symm⟩))))
        go_wp2
        go_roundw
        case rel => exact ⟨q + 1, f, by omega, by omega, (HR.out.drewN _).setAt _ _ (by omega), (HK.out.drewN _).setCell (.inl (by simp)) _, HF2.out⟩
        case measure => rw [HR.out.at_, ((HR.out.drewN _).setAt (q + 1) _ (by omega)).at_]; omega
      · have hbl' : blI s[q].toNat = false := by simpa using hbl
        have HF2 : Hid (q = skip s p) := by
          have := HF.out
          unfold spanF at this
          rw [HB.out, if_neg hbl] at this
          exact this
        rw [hbl'] at hx
        have HX := Lib.hid hx
        clear hx hbl hbl'
        go_wp2
        go_quiet ((go_at_call 136; exact Calls.quiet_of_same ((HX.out _).mono (fun e w' h => ⟨h.1, h.2.symm⟩))))
        go_wp2
        go_end0
        exact ⟨rfl, by rw [← HF2.out]; exact HR.out.drewN _, HK.out.drewN _⟩
    · have HF2 : Hid (q = skip s p) := by
        have := HF.out
        cases f with
        | zero => exact this
        | succ f =>
          unfold spanF at this
          rw [byt_out (by omega), if_neg (by decide)] at this
          exact this
      have hlt' : decide (q < s.size) = false := by simpa using hlt
      clear hlt
      go_wp2
      go_quiet (fail)
      go_wp2
      go_end0
      exact ⟨rfl, by rw [← HF2.out]; exact HR.out.drewN _, HK.out.drewN _⟩

/-- What reading one thing hands back: the value v a, the place behind; or the end. -/
def RPost {α : Type} (w : World) (g : Nat) (s : ByteArray) (n d : Nat) (v : Value) (val : α → Value) : RR α → Ending → World → Prop
  | .out, _, _ => True
  | .bad e p, x, w' => x = Stop e p ∧ Keep [g] w w'
  | .ok a p, x, w' => x = .returned (val a) ∧ Rr w' g s p n d v ∧ Keep [g] w w'
set_option maxRecDepth 100000 in
set_option maxHeartbeats 800000 in
/-- sign. -/
theorem sign_any (w : World) (g : Nat) (s : ByteArray) (p n d : Nat) (v : Value) (b : Int) (h : Rr w g s p n d v) (hp : p ≤ s.size) (hs : s.size ≤ 9223372036854775000) (hb : 0 ≤ b) :
    Calls Tryz.prog 96 #[.pointer (some ⟨g, 0, none⟩), .int .u8 b] w (RPost w g s n d v (fun _ => .tuple #[]) (signS s b p)) := by
  have H := Lib.hid h
  clear h
  have hq := skip_le s p hp
  have HK := Lib.hid (blanks_any w g s p n d v H.out hp hs)
  by_cases hc : byt s (skip s p) = b
  · have HC : Hid (signS s b p = .ok () (skip s p + 1)) := by unfold Hid signS; rw [if_pos hc]
    have hq2 : skip s p < s.size := byt_lt (by omega)
    have HB : Hid ((byt s (skip s p) == b) = true) := by unfold Hid; rw [hc]; exact beq_self_eq_true b
    clear hc
    generalize skip s p = q at *
    go_enter Tryz.func96, Tryz.ntmps96
    go_wp2_with fail
    refine HK.out.mono ?_
    rintro x w1 ⟨rfl, h1, k1⟩
    obtain ⟨c0, c1, c2, c3, c4, f1, f2, f3, f4⟩ := h1.cells
    have H1 := Lib.hid h1
    have K1 := Lib.hid k1
    clear h1 k1
    go_wp2_with fail
    refine (on_any w1 g s q n d v b H1.out hb).mono ?_
    rintro x w2 ⟨rfl, k, rfl⟩
    rw [HB.out]
    go_wp2_with fail
    go_end0
    rw [HC.out]
    exact ⟨rfl, (H1.out.drewN _).setAt _ _ (by omega), (K1.out.drewN _).setCell (.inl (by simp)) _⟩
  · have HC : Hid (signS s b p = .bad 290 (skip s p)) := by unfold Hid signS; rw [if_neg hc]
    have HB : Hid ((byt s (skip s p) == b) = false) := by unfold Hid; simpa using hc
    clear hc
    generalize skip s p = q at *
    go_enter Tryz.func96, Tryz.ntmps96
    go_wp2_with fail
    refine HK.out.mono ?_
    rintro x w1 ⟨rfl, h1, k1⟩
    obtain ⟨c0, c1, c2, c3, c4, f1, f2, f3, f4⟩ := h1.cells
    have H1 := Lib.hid h1
    have K1 := Lib.hid k1
    clear h1 k1
    go_wp2_with fail
    refine (on_any w1 g s q n d v b H1.out hb).mono ?_
    rintro x w2 ⟨rfl, k, rfl⟩
    rw [HB.out]
    go_wp2_with fail
    refine (rfail_any _ _ _ _).mono ?_
    rintro x w3 ⟨rfl, rfl⟩
    trace_state
    go_wp2_with fail
    trace_state
    rw [HC.out]
    exact ⟨rfl, rfl, K1.out.drewN _⟩
end Go.Proofs.YtjldgcpmdcoejaaGreatDoor
