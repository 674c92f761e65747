/- Walks: plain of messages: has a part nothing but what its kind has? -/
import Derived.Test.YtjldgcpmdcoejaaGreatDoorPN
namespace Go.Proofs.YtjldgcpmdcoejaaGreatDoor
open Go.RowKit

theorem emp (s : ByteArray) : s.toList.isEmpty = noB s := by
  unfold noB
  by_cases h : s.size = 0
  · rw [empty_iff.2 h, decide_eq_true h]
  · rw [not_empty h, decide_eq_false h]
theorem spot_zero (s : ByteArray) : (spotErr s == 0) = decide (brk s < 0) := by unfold spotErr; split <;> simp [*]
/-- The memory of plain: the part, and what is left of it. -/
abbrev PlC (p : PT) (cv : Value) : Array Value := #[.int .i64 p.k, .string p.tx, .string p.nm, .string p.ty, .string p.st, .int .i64 p.off, cv]
set_option maxRecDepth 100000 in
set_option maxHeartbeats 4000000 in
theorem plain_1 (p : PT) (h : Bool) (A : Option Addr) (c : Nat) (w : World) (hk : p.k = 1) (hs : p.tx.size ≤ 1000000000) :
    Calls Tryz.prog 77 #[.agg #[.int .i64 p.k, .string p.tx, .string p.nm, .string p.ty, .string p.st, .int .i64 p.off, .slice A p.cs.length c], .bool h] w fun e w' => e = .returned (.bool (plainB p h)) ∧ Keep [] w w' := by
  have HKK : Hid (plainB p h = (!p.tx.toList.isEmpty && (spotErr p.tx == 0) && decide (p.cs.length = 0) && p.nm.toList.isEmpty && p.ty.toList.isEmpty && p.st.toList.isEmpty && decide (p.off = 0))) := by
    unfold Hid plainB
    rw [if_pos hk, emp, emp, emp, emp, spot_zero]
  have HC : ∀ W, Hid (Calls Tryz.prog 30 #[.string p.tx] W fun e w' => e = .returned (.agg #[.int .i64 (spotErr p.tx), .int .i64 (spotAt p.tx)]) ∧ Below W.heap.size W w') := fun W => check_any p.tx W (by omega)
  have hfs := fun W => field_spot W (.int .i64 (spotErr p.tx)) (.int .i64 (spotAt p.tx))
  have hcs : ((p.cs.length : Int) == 0) = decide (p.cs.length = 0) := by rw [Bool.eq_iff_iff]; simp
  have ho : (p.off == 0) = decide (p.off = 0) := by rw [Bool.eq_iff_iff]; simp
  rw [hk]
  rw [← hcs, ← ho] at HKK
  clear hcs ho
  cases h1 : p.tx.toList.isEmpty
  · rw [h1] at HKK
    cases h2 : (spotErr p.tx == 0)
    · rw [h2] at HKK
      have h2' : (spotErr p.tx != 0) = true := by simpa using h2
      go_enter Tryz.func77, Tryz.ntmps77
      go_wp2_with (go_at_call 30; refine (HC _).out.mono ?_; rintro e w3 ⟨rfl, hb3⟩)
      go_ret
      exact ⟨by rw [HKK.out]; rfl, (((Keep.refl [] w).alloc _).alloc _).nil (Keep.of_below hb3)⟩
    · rw [h2] at HKK
      have h2' : (spotErr p.tx != 0) = false := by simpa using h2
      have hN1 := Blk.new w 47 (PlC { p with k := 1 } (.slice A p.cs.length c))
      go_enter Tryz.func77, Tryz.ntmps77
      go_wp2_with fail
      refine (HC _).out.mono ?_
      rintro e w3 ⟨rfl, hb3⟩
      have hK3 : Keep [] w w3 := (((Keep.refl [] w).alloc _).alloc _).nil (Keep.of_below hb3)
      have hP3 : Blk w3 w.heap.size 47 (({ p with k := 1 } : PT).cells (.slice A p.cs.length c)).toArray := ((Blk.new w 47 _).alloc _).below hb3 (by simp; omega)
      have hQ3 : Blk w3 (w.heap.size + 1) 47 (({ p with k := 0 } : PT).cells (.slice none 0 0)).toArray := (Blk.new' (w.alloc (.cells (({ p with k := 1 } : PT).cells (.slice A p.cs.length c)).toArray 47)) 47 _ (w.heap.size + 1) (by simp)).below hb3 (by simp)
      obtain ⟨a0, a1, a2, a3, a4, a5, a6, az⟩ := part_all hP3
      obtain ⟨b0, b1, b2, b3, b4, b5, b6, bz⟩ := part_all hQ3
      have HK3 := Lib.hid hK3
      clear hP3 hQ3 hb3 hK3 hN1
      go_wp2
      all_goals
        go_ret
        exact ⟨by rw [HKK.out]; simp [*], HK3.out.setCell (.inr (by simp)) _⟩
  · rw [h1] at HKK
    go_enter Tryz.func77, Tryz.ntmps77
    go_wp2_with fail
    go_ret
    exact ⟨by rw [HKK.out]; rfl, ((Keep.refl [] w).alloc _).alloc _⟩

set_option maxRecDepth 100000 in
set_option maxHeartbeats 4000000 in
theorem plain_2 (p : PT) (h : Bool) (A : Option Addr) (c : Nat) (w : World) (hk : p.k = 2) :
    Calls Tryz.prog 77 #[.agg #[.int .i64 p.k, .string p.tx, .string p.nm, .string p.ty, .string p.st, .int .i64 p.off, .slice A p.cs.length c], .bool h] w fun e w' => e = .returned (.bool (plainB p h)) ∧ Keep [] w w' := by
  have hcs : ((p.cs.length : Int) == 0) = decide (p.cs.length = 0) := by rw [Bool.eq_iff_iff]; simp
  have ho : (p.off == 0) = decide (p.off = 0) := by rw [Bool.eq_iff_iff]; simp
  have HKK : Hid (plainB p h = (h && ((p.cs.length : Int) == 0) && p.tx.toList.isEmpty && p.nm.toList.isEmpty && p.ty.toList.isEmpty && p.st.toList.isEmpty && (p.off == 0))) := by
    unfold Hid plainB
    rw [if_neg (by omega), if_pos hk, emp, emp, emp, emp, hcs, ho]
  rw [hk]
  clear hcs ho
  cases h
  · go_enter Tryz.func77, Tryz.ntmps77
    go_wp2_with fail
    go_ret
    exact ⟨by rw [HKK.out]; simp, ((Keep.refl [] w).alloc _).alloc _⟩
  · go_enter Tryz.func77, Tryz.ntmps77
    go_wp2_with fail
    all_goals
      go_ret
      exact ⟨by rw [HKK.out]; simp [*], ((Keep.refl [] w).alloc _).alloc _⟩
set_option maxRecDepth 100000 in
set_option maxHeartbeats 4000000 in
theorem plain_x (p : PT) (h : Bool) (A : Option Addr) (c : Nat) (w : World) (hk : ¬ (p.k = 1 ∨ p.k = 2 ∨ p.k = 3 ∨ p.k = 4 ∨ p.k = 5 ∨ p.k = 6)) :
    Calls Tryz.prog 77 #[.agg #[.int .i64 p.k, .string p.tx, .string p.nm, .string p.ty, .string p.st, .int .i64 p.off, .slice A p.cs.length c], .bool h] w fun e w' => e = .returned (.bool (plainB p h)) ∧ Keep [] w w' := by
  have HKK : Hid (plainB p h = false) := by
    unfold Hid plainB
    rw [if_neg (by omega), if_neg (by omega), if_neg (by omega), if_neg (by omega)]
  have k1 : (p.k == 1) = false := by simp; omega
  have k2 : (p.k == 2) = false := by simp; omega
  have k3 : (p.k == 3) = false := by simp; omega
  have k4 : (p.k == 4) = false := by simp; omega
  have k5 : (p.k == 5) = false := by simp; omega
  have k6 : (p.k == 6) = false := by simp; omega
  clear hk
  go_enter Tryz.func77, Tryz.ntmps77
  go_wp2_with fail
  go_ret
  exact ⟨by rw [HKK.out]; rfl, ((Keep.refl [] w).alloc _).alloc _⟩
set_option maxRecDepth 100000 in
set_option maxHeartbeats 4000000 in
theorem plain_c (p : PT) (h : Bool) (A : Option Addr) (c : Nat) (w : World) (kk : Int) (hk : p.k = kk) (hkk : kk = 4 ∨ kk = 5 ∨ kk = 6) (hs : p.nm.size ≤ 1000000000) :
    Calls Tryz.prog 77 #[.agg #[.int .i64 p.k, .string p.tx, .string p.nm, .string p.ty, .string p.st, .int .i64 p.off, .slice A p.cs.length c], .bool h] w fun e w' => e = .returned (.bool (plainB p h)) ∧ Keep [] w w' := by
  have hcs : ((p.cs.length : Int) == 0) = decide (p.cs.length = 0) := by rw [Bool.eq_iff_iff]; simp
  have ho : (p.off == 0) = decide (p.off = 0) := by rw [Bool.eq_iff_iff]; simp
  have HKK : Hid (plainB p h = (decide (0 ≤ p.off) && decide (p.off ≤ 999999999) && (decide (kk ≠ 4) || (p.off == 0)) && !((p.cs.length : Int) == 0) && isNameB p.nm && p.tx.toList.isEmpty && p.ty.toList.isEmpty && p.st.toList.isEmpty)) := by
    unfold Hid plainB
    rw [if_neg (by omega), if_neg (by omega), if_neg (by omega), if_pos (by omega), emp, emp, emp, hcs, ho, hk]
  have HN : ∀ W, Hid (Calls Tryz.prog 114 #[.string p.nm] W fun e w' => e = .returned (.bool (isNameB p.nm)) ∧ W = w') := fun W => isName_any p.nm W (by omega)
  rw [hk]
  clear hcs ho hk
  generalize isNameB p.nm = q at *
  rcases hkk with rfl | rfl | rfl
  all_goals
    cases q
    all_goals
      go_enter Tryz.func77, Tryz.ntmps77
      go_wp2_with (go_at_call 114; refine (HN _).out.mono ?_; rintro e w3 ⟨rfl, rfl⟩)
      all_goals
        go_ret
        exact ⟨by rw [HKK.out]; simp [*] <;> first | omega | (clear HKK HN; simp at *; grind), ((Keep.refl [] w).alloc _).alloc _⟩
end Go.Proofs.YtjldgcpmdcoejaaGreatDoor
