/- Walks: plain of messages, at an argument. -/
import Derived.Test.YtjldgcpmdcoejaaGreatDoorPN
namespace Go.Proofs.YtjldgcpmdcoejaaGreatDoor
open Go.RowKit

theorem emp' (s : ByteArray) : s.toList.isEmpty = noB s := by
  unfold noB
  by_cases h : s.size = 0
  · rw [empty_iff.2 h, decide_eq_true h]
  · rw [not_empty h, decide_eq_false h]
theorem typef_any {B : Nat} (W : World) (hE : EnvM B W) : Calls Tryz.prog 98 #[.string ⟨#[110, 117, 109, 98, 101, 114, 32, 100, 97, 116, 101, 32, 116, 105, 109, 101, 32, 108, 105, 115, 116, 32, 117, 110, 105, 116, 32, 114, 101, 108, 97, 116, 105, 118, 101, 32, 112, 108, 97, 110, 101]⟩] W fun e w' => e = .returned (.slice (some ⟨W.heap.size, 0, none⟩) 7 7) ∧ w' = W.alloc (.cells (typesW.map Value.string).toArray 9) :=
  fields_words (B := B) _ typesW W hE (by decide) (by decide) (by decide)
theorem types_any (W : World) (n : Nat) (hn : W.heap.size = n) (t : ByteArray) : Calls Tryz.prog 97 #[.slice (some ⟨n, 0, none⟩) 7 7, .string t] (W.alloc (.cells (typesW.map Value.string).toArray 9)) fun e w' => e = .returned (.bool (memW typesW t)) ∧ w' = W.alloc (.cells (typesW.map Value.string).toArray 9) :=
  words_contain W n hn typesW t (by decide)
/-- The two boxes of plain, in the memory behind its calls. -/
theorem boxes {w W : World} {n : Nat} {c d : Array Value} (hn : w.heap.size = n) (hk : Keep [] ((w.alloc (.cells c 47)).alloc (.cells d 47)) W) : Blk W n 47 c ∧ Blk W (n + 1) 47 d :=
  ⟨((Blk.new' w 47 c n hn).alloc _).keep hk (by simp), (Blk.new' (w.alloc (.cells c 47)) 47 d (n + 1) (by simp [hn])).keep hk (by simp)⟩
set_option maxRecDepth 100000 in
set_option maxHeartbeats 4000000 in
/-- plain, at an argument without a type. -/
theorem plain_3 (p : PT) (h : Bool) (A : Option Addr) (c : Nat) (w : World) (hk : p.k = 3) (h3 : p.ty.size = 0) (hs : p.nm.size ≤ 1000000000) :
    Calls Tryz.prog 77 #[.agg #[.int .i64 p.k, .string p.tx, .string p.nm, .string p.ty, .string p.st, .int .i64 p.off, .slice A p.cs.length c], .bool h] w fun e w' => e = .returned (.bool (plainB p h)) ∧ Keep [] w w' := by
  have hcs : ((p.cs.length : Int) == 0) = decide (p.cs.length = 0) := by rw [Bool.eq_iff_iff]; simp
  have ho : (p.off == 0) = decide (p.off = 0) := by rw [Bool.eq_iff_iff]; simp
  have h3e : p.ty.toList.isEmpty = true := empty_iff.2 h3
  have HKK : Hid (plainB p h = (p.st.toList.isEmpty && isNameB p.nm && ((p.cs.length : Int) == 0) && p.tx.toList.isEmpty && (p.off == 0))) := by
    unfold Hid plainB
    rw [if_neg (by omega), if_neg (by omega), if_pos hk, ← emp', ← emp', ← emp', hcs, ho, h3e]
    simp
  have HN : ∀ W, Hid (Calls Tryz.prog 114 #[.string p.nm] W fun e w' => e = .returned (.bool (isNameB p.nm)) ∧ W = w') := fun W => isName_any p.nm W (by omega)
  have h3n : p.ty.toList = [] := List.isEmpty_iff.1 h3e
  rw [hk]
  clear hcs ho hk h3 h3e
  generalize isNameB p.nm = qn at *
  cases h4 : p.st.toList.isEmpty
  · rw [h4] at HKK
    have h4n : ¬ p.st.toList = [] := by intro h; rw [h] at h4; cases h4
    go_enter Tryz.func77, Tryz.ntmps77
    go_wp2
    go_quiet (fail)
    go_wp2
    go_ret
    exact ⟨by rw [HKK.out]; simp, (((Keep.refl [] w).alloc _).alloc _).drewN _⟩
  · rw [h4] at HKK
    have h4n : p.st.toList = [] := List.isEmpty_iff.1 h4
    cases qn
    all_goals
      go_enter Tryz.func77, Tryz.ntmps77
      go_wp2
      go_quiet (fail)
      go_wp2_with (go_at_call 114; refine (HN _).out.mono ?_; rintro e w3 ⟨rfl, rfl⟩)
      all_goals
        go_ret
        refine ⟨by rw [HKK.out]; simp [*], ?_⟩
        repeat (first | exact Keep.refl _ _ | refine Keep.drewN ?_ _ | refine Keep.setCell ?_ (.inr (by simp)) _ | refine Keep.alloc ?_ _)
end Go.Proofs.YtjldgcpmdcoejaaGreatDoor
