/- Walks: utf.At and the small methods of numpat's reader. -/
import Derived.Test.YtkkglaglnfebjaaDoorWCheck
import Derived.Test.YtkkglaglnfebjaaDoorBase
import Derived.Test.YtkkglaglnfebjaaDoorShelf
import Derived.Deep.QuietTactic
import Derived.BigQuiet
import Derived.Deep.RegionWith
import Derived.Deep.RegionHeld3
import Derived.Lib.RuneCountTail
namespace Go.Proofs.YtkkglaglnfebjaaDoor
open Go.RowKit

theorem decodeGo_at (s : ByteArray) (k : Nat) (h : k < s.size) : Lib.decodeGo (s.extract k s.size) = Utf8.decode s k := by
  unfold Lib.decodeGo
  rw [if_neg (by simp; omega), Lib.tail_decode]
  simp
theorem formD_atRet {s : ByteArray} {k : Nat} {a b : Int} (h : formD s k = (a, b.toNat)) (h0 : b = (b.toNat : Int)) : Ending.returned (.tuple #[.int .i32 a, .int .i64 b]) = Ending.returned (.tuple #[.int .i32 (formD s k).1, .int .i64 (formD s k).2]) := form_ret h h0

set_option maxRecDepth 100000 in
set_option maxHeartbeats 400000 in
/-- utf.At inside a text. -/
theorem at_in {B : Nat} (s : ByteArray) (k : Nat) (w : World) (hE : Env B w) (_hs : s.size ≤ 9223372036854775800) (h : k < s.size) :
    Calls Tryd.prog 131 #[.string s, .int .i64 k] w fun e w' => e = .returned (.tuple #[.int .i32 (formD s k).1, .int .i64 (formD s k).2]) ∧ Below w.heap.size w w' := by
  have HD := Lib.hid (decodeGo_at s k h)
  by_cases hn : (formD s k).1 < 0
  · have hd := (formD_neg s k).1 hn
    have HF := Lib.hid (brkAt_bad s k h hn)
    have hq : formD s k = (-1, 1) := by
      unfold formD at hn ⊢
      split
      · rfl
      · rename_i hc
        rw [if_neg hc] at hn
        simp only at hn
        omega
    have HQ := Lib.hid hq
    clear hq
    have e1 : (((Lib.decodeGo (s.extract k s.size)).1 : Int) == 65533) = true := by rw [HD.out, hd.1]; rfl
    have e2 : (((Lib.decodeGo (s.extract k s.size)).2 : Int) == 1) = true := by rw [HD.out, hd.2]; rfl
    clear hn hd
    go_enter Tryd.func131, Tryd.ntmps131
    go_wp2_with (go_at_call 107; refine (Tryd.utf8_DecodeRuneInString _ _ hE.tabs).mono ?_; rintro e w' ⟨rfl, hb⟩)
    go_ret2
    exact ⟨form_ret HQ.out rfl, hb⟩
  · have HQ := Lib.hid (formD_same s k hn)
    have e1 : ((((Lib.decodeGo (s.extract k s.size)).1 : Int) == 65533) && (((Lib.decodeGo (s.extract k s.size)).2 : Int) == 1)) = false := by
      rw [HD.out]
      have := mt (formD_neg s k).2 hn
      simp
      omega
    clear hn
    by_cases e2 : (((Lib.decodeGo (s.extract k s.size)).1 : Int) == 65533) = true
    · have e3 : (((Lib.decodeGo (s.extract k s.size)).2 : Int) == 1) = false := by simpa [e2] using e1
      clear e1
      go_enter Tryd.func131, Tryd.ntmps131
      go_wp2_with (go_at_call 107; refine (Tryd.utf8_DecodeRuneInString _ _ hE.tabs).mono ?_; rintro e w' ⟨rfl, hb⟩)
      go_ret2
      exact ⟨by rw [HD.out, HQ.out]; rfl, hb⟩
    · have e2' : (((Lib.decodeGo (s.extract k s.size)).1 : Int) == 65533) = false := by simpa using e2
      clear e1 e2
      go_enter Tryd.func131, Tryd.ntmps131
      go_wp2_with (go_at_call 107; refine (Tryd.utf8_DecodeRuneInString _ _ hE.tabs).mono ?_; rintro e w' ⟨rfl, hb⟩)
      go_ret2
      exact ⟨by rw [HD.out, HQ.out]; rfl, hb⟩
set_option maxRecDepth 100000 in
set_option maxHeartbeats 400000 in
/-- utf.At behind a text's end. -/
theorem at_end (s : ByteArray) (k : Nat) (w : World) (_hs : s.size ≤ 9223372036854775800) (h : s.size ≤ k) :
    Calls Tryd.prog 131 #[.string s, .int .i64 k] w fun e w' => e = .returned (.tuple #[.int .i32 (-1), .int .i64 0]) ∧ w = w' := by
  go_enter Tryd.func131, Tryd.ntmps131
  go_wp2
  go_ret2
  exact ⟨rfl, rfl⟩

/-- numpat's reader in block g. -/
def Rd (w : World) (g : Nat) (s : ByteArray) (p : Nat) (e ea : Int) : Prop := Blk w g 77 #[.string s, .int .i64 p, .int .i64 e, .int .i64 ea]
theorem Rd.cells {w : World} {g : Nat} {s : ByteArray} {p : Nat} {e ea : Int} (h : Rd w g s p e ea) :
    w.cell? ⟨g, 0, none⟩ = some (.string s) ∧ w.cell? ⟨g, 1, none⟩ = some (.int .i64 p) ∧ w.cell? ⟨g, 2, none⟩ = some (.int .i64 e) ∧ w.cell? ⟨g, 3, none⟩ = some (.int .i64 ea) ∧
    w.frozen? ⟨g, 1, none⟩ = false ∧ w.frozen? ⟨g, 2, none⟩ = false ∧ w.frozen? ⟨g, 3, none⟩ = false :=
  ⟨h.cell_eq rfl, h.cell_eq rfl, h.cell_eq rfl, h.cell_eq rfl, h.frozen 1, h.frozen 2, h.frozen 3⟩

theorem Rd.setAt {w : World} {g : Nat} {s : ByteArray} {p : Nat} {e ea : Int} (h : Rd w g s p e ea) (q : Nat) (v : Int) (hv : v = q) : Rd (w.setCell ⟨g, 1, none⟩ (.int .i64 v)) g s q e ea := by
  subst hv; exact Blk.set_ h 1 _
theorem Rd.setSpot {w : World} {g : Nat} {s : ByteArray} {p : Nat} {e ea : Int} (h : Rd w g s p e ea) (x y : Int) : Rd ((w.setCell ⟨g, 2, none⟩ (.int .i64 x)).setCell ⟨g, 3, none⟩ (.int .i64 y)) g s p x y :=
  Blk.set_ (Blk.set_ h 2 _) 3 _
theorem Rd.keep {w w' : World} {g : Nat} {s : ByteArray} {p : Nat} {e ea : Int} {bs : List Nat} (h : Rd w g s p e ea) (hb : Keep bs w w') (hg : g ∉ bs) : Rd w' g s p e ea := Blk.keep h hb hg

set_option maxRecDepth 100000 in
set_option maxHeartbeats 400000 in
/-- take, where the byte stands there. -/
theorem take_yes (w : World) (g : Nat) (s : ByteArray) (p : Nat) (e ea : Int) (b : Int) (h : Rd w g s p e ea) (hs : s.size ≤ 9223372036854775800) (hp : p < s.size) (hb : (s[p].toNat : Int) = b) :
    Calls Tryd.prog 43 #[.pointer (some ⟨g, 0, none⟩), .int .u8 b] w fun x w' => x = .returned (.bool true) ∧ Rd w' g s (p + 1) e ea ∧ Keep [g] w w' := by
  obtain ⟨c0, c1, c2, c3, f1, f2, f3⟩ := h.cells
  have H := Lib.hid h
  have hp' : (p : Int) < s.size := by omega
  have hb' : ((s[p].toNat : Int) == b) = true := by rw [hb]; exact beq_self_eq_true b
  clear h hb
  go_enter Tryd.func43, Tryd.ntmps43
  go_wp2
  go_quiet (fail)
  go_wp2
  go_ret
  exact ⟨rfl, (H.out.setAt (p + 1) _ (by omega)).drewN _, ((Keep.refl _ _).setCell (.inl (by simp)) _).drewN _⟩

set_option maxRecDepth 100000 in
set_option maxHeartbeats 400000 in
/-- take, where another byte stands there. -/
theorem take_no (w : World) (g : Nat) (s : ByteArray) (p : Nat) (e ea : Int) (b : Int) (h : Rd w g s p e ea) (_hs : s.size ≤ 9223372036854775800) (hp : p < s.size) (hb : (s[p].toNat : Int) ≠ b) :
    Calls Tryd.prog 43 #[.pointer (some ⟨g, 0, none⟩), .int .u8 b] w fun x w' => x = .returned (.bool false) ∧ Rd w' g s p e ea ∧ Keep [] w w' := by
  obtain ⟨c0, c1, c2, c3, f1, f2, f3⟩ := h.cells
  have H := Lib.hid h
  have hp' : (p : Int) < s.size := by omega
  have hb' : ((s[p].toNat : Int) == b) = false := by simpa using hb
  clear h hb
  go_enter Tryd.func43, Tryd.ntmps43
  go_wp2
  go_quiet (fail)
  go_wp2
  go_ret
  exact ⟨rfl, H.out.drewN _, (Keep.refl _ _).drewN _⟩

set_option maxRecDepth 100000 in
set_option maxHeartbeats 400000 in
/-- take, at the end. -/
theorem take_end (w : World) (g : Nat) (s : ByteArray) (p : Nat) (e ea : Int) (b : Int) (h : Rd w g s p e ea) (_hs : s.size ≤ 9223372036854775800) (hp : s.size ≤ p) :
    Calls Tryd.prog 43 #[.pointer (some ⟨g, 0, none⟩), .int .u8 b] w fun x w' => x = .returned (.bool false) ∧ Rd w' g s p e ea ∧ Keep [] w w' := by
  obtain ⟨c0, c1, c2, c3, f1, f2, f3⟩ := h.cells
  have H := Lib.hid h
  have hp' : decide (p < s.size) = false := by simp; omega
  clear h
  go_enter Tryd.func43, Tryd.ntmps43
  go_wp2
  go_quiet (fail)
  go_wp2
  go_ret
  exact ⟨rfl, H.out.drewN _, (Keep.refl _ _).drewN _⟩

set_option maxRecDepth 100000 in
set_option maxHeartbeats 400000 in
/-- fail. -/
theorem fail_any (w : World) (g : Nat) (s : ByteArray) (p : Nat) (e ea : Int) (x y : Int) (h : Rd w g s p e ea) :
    Calls Tryd.prog 116 #[.pointer (some ⟨g, 0, none⟩), .int .i64 x, .int .i64 y] w fun z w' => z = .returned (.bool false) ∧ Rd w' g s p x y ∧ Keep [g] w w' := by
  obtain ⟨c0, c1, c2, c3, f1, f2, f3⟩ := h.cells
  have H := Lib.hid h
  clear h
  go_enter Tryd.func116, Tryd.ntmps116
  go_wp2
  go_ret
  exact ⟨rfl, H.out.setSpot x y, ((Keep.refl _ _).setCell (.inl (by simp)) _).setCell (.inl (by simp)) _⟩

set_option maxRecDepth 100000 in
set_option maxHeartbeats 400000 in
/-- next, inside the text. -/
theorem next_in {B : Nat} (w : World) (g : Nat) (s : ByteArray) (p : Nat) (e ea : Int) (hE : Env B w) (h : Rd w g s p e ea) (hs : s.size ≤ 9223372036854775800) (hp : p < s.size) :
    Calls Tryd.prog 115 #[.pointer (some ⟨g, 0, none⟩)] w fun z w' => z = .returned (.tuple #[.int .i32 (formD s p).1, .int .i64 (formD s p).2]) ∧ Keep [] w w' := by
  obtain ⟨c0, c1, c2, c3, f1, f2, f3⟩ := h.cells
  have H := Lib.hid h
  clear h
  have hA : ∀ n, Hid (Calls Tryd.prog 131 #[.string s, .int .i64 p] (w.drewN n) fun e w' => e = .returned (.tuple #[.int .i32 (formD s p).1, .int .i64 (formD s p).2]) ∧ Below (w.drewN n).heap.size (w.drewN n) w') := fun n => at_in s p _ (hE.drewN n) hs hp
  go_enter Tryd.func115, Tryd.ntmps115
  go_wp2
  go_region_with (go_at_call 131; refine (hA 1).out.mono ?_; rintro e w' ⟨rfl, hb⟩)
  all_goals
    go_wp2
    go_ret2
    exact ⟨rfl, ((Keep.refl [] w).drewN 1).nil (Keep.of_below hb)⟩

set_option maxRecDepth 100000 in
set_option maxHeartbeats 400000 in
/-- next, at the end. -/
theorem next_end (w : World) (g : Nat) (s : ByteArray) (p : Nat) (e ea : Int) (h : Rd w g s p e ea) (hs : s.size ≤ 9223372036854775800) (hp : s.size ≤ p) :
    Calls Tryd.prog 115 #[.pointer (some ⟨g, 0, none⟩)] w fun z w' => z = .returned (.tuple #[.int .i32 (-1), .int .i64 0]) ∧ Keep [] w w' := by
  obtain ⟨c0, c1, c2, c3, f1, f2, f3⟩ := h.cells
  clear h
  have hA : ∀ n, Hid (Calls Tryd.prog 131 #[.string s, .int .i64 p] (w.drewN n) fun e w' => e = .returned (.tuple #[.int .i32 (-1), .int .i64 0]) ∧ w.drewN n = w') := fun n => at_end s p _ hs hp
  go_enter Tryd.func115, Tryd.ntmps115
  go_wp2
  go_region_with (go_at_call 131; refine (hA 1).out.mono ?_; rintro e w' ⟨rfl, rfl⟩)
  all_goals
    go_wp2
    go_ret2
    exact ⟨rfl, (Keep.refl [] w).drewN 1⟩
end Go.Proofs.YtkkglaglnfebjaaDoor
