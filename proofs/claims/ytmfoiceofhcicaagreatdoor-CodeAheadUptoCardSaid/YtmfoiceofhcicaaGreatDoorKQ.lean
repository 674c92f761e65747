/- Walks: bytes.Equal; bytes as a text. -/
import Derived.Test.YtmfoiceofhcicaaGreatDoorKF
import Derived.Lib.SlBytesRow
namespace Go.Proofs.YtmfoiceofhcicaaGreatDoor
open Go.RowKit Go.IntWalk

/-- 'string(b)' of bytes that are read. -/
theorem conv_text {w : World} {v : Value} {l : List UInt8} (h : RdU w v l) : (convert 25 9 v).run Tryz.prog w = .ok (.string ⟨l.toArray⟩) w := by
  obtain ⟨A, cap, rfl, _, _, hc⟩ := h
  cases A with
  | none =>
    have hn : l = [] := by
      cases l with
      | nil => rfl
      | cons x l =>
        obtain ⟨b, o, h1, _⟩ := hc (by simp)
        cases h1
    subst hn
    simp [convert, go_sem, Conv.bytesToString]
    rfl
  | some ad =>
    cases l with
    | nil =>
      simp [convert, go_sem, Conv.bytesToString]
      rfl
    | cons x l =>
      obtain ⟨b, o, h1, _, _, h2⟩ := hc (by simp)
      obtain rfl := Option.some.inj h1
      refine Lib.run_convert_whole w _ _ _ Tryz.underlying25 Tryz.underlying5 Tryz.underlying9 b o ⟨(x :: l).toArray⟩ (fun i hi => ?_) cap
      have hi' : i < (x :: l).length := hi
      exact h2 i _ (by rw [List.getElem?_map, List.getElem?_eq_getElem hi']; rfl)
set_option maxRecDepth 100000 in
set_option maxHeartbeats 400000 in
/-- bytes.Equal. -/
theorem equalU_any (w : World) (u v : Value) (a b : List UInt8) (ha : RdU w u a) (hb : RdU w v b) :
    Calls Tryz.prog 17 #[u, v] w fun e w' => e = .returned (.bool (decide (a = b))) ∧ w = w' := by
  have h1 := conv_text ha
  have h2 := conv_text hb
  have HD : Hid ((a == b) = decide (a = b)) := by
    unfold Hid
    by_cases h : a = b <;> simp [h]
  clear ha hb
  go_enter Tryz.func17, Tryz.ntmps17
  go_wp2
  go_ret
  rw [← HD.out]
  exact ⟨rfl, rfl⟩
end Go.Proofs.YtmfoiceofhcicaaGreatDoor
