/- Walks: number, of the reader of messages, and the small ones beside it. -/
import Derived.Test.YtmfoiceofhcicaaGreatDoorMQ
import Derived.Test.YtmfoiceofhcicaaGreatDoorEV
import Derived.Lib.AtoiAllCases
namespace Go.Proofs.YtmfoiceofhcicaaGreatDoor
open Go.RowKit

/-- What message.number hands back. -/
def NPost (w : World) (t : ByteArray) (e : Ending) (w' : World) : Prop := ∃ v : Int, e = .returned (.tuple #[.int .i64 v, .bool (numV t).isSome]) ∧ (∀ x, numV t = some x → v = x) ∧ Below w.heap.size w w'
set_option maxRecDepth 100000 in
set_option maxHeartbeats 1000000 in
/-- message.number. -/
theorem number_any {B : Nat} (w : World) (t : ByteArray) (hE : EnvM B w) (hs : t.size ≤ 140737488355328) :
    Calls Tryz.prog 104 #[.string t] w (NPost w t) := by
  have HE := Lib.hid hE
  rcases ha : Lib.atoiAll t.data.toList with v | _ | _
  · skip
    have HA := Lib.hid (Tryz.strconv_Atoi_ok t (by omega) v ha w)
    have HV : Hid (numV t = if t.size ≤ 9 ∧ Lib.itoa v = t.data.toList ∧ 0 ≤ v then some v else none) := by unfold Hid numV; rw [ha]
    have hv : -9223372036854775808 ≤ v ∧ v ≤ 9223372036854775807 := Lib.atoiAll_bounds ha
    have HX : Hid ((numV t).isSome = decide (t.size ≤ 9 ∧ Lib.itoa v = t.toList ∧ 0 ≤ v)) := by
      unfold Hid
      rw [HV.out, ByteArray.toList_eq]
      split <;> simp_all
    have HY : Hid (∀ x, numV t = some x → v = x) := fun x hx => by
      rw [HV.out] at hx
      split at hx
      · exact Option.some.inj hx
      · cases hx
    clear ha hE
    go_enter Tryz.func104, Tryz.ntmps104
    go_wp2_with fail
    refine HA.out.mono ?_
    rintro e w1 ⟨rfl, hw1⟩
    have HB : Hid (Below w.heap.size w w1) := by
      rcases hw1 with rfl | ⟨t, rfl⟩
      · exact Below.refl _ _
      · exact Lib.bytesWorld_below _ _ _
    clear hw1
    go_wp2_with (go_at_call 87; refine (Tryz.strconv_Itoa v hv.1 hv.2 _ (HE.out.below (HB.out.mono HE.out.env.le)).vars.pow).mono ?_; rintro e w2 ⟨rfl, k, os, rfl⟩)
    all_goals
      have key := HX.out
      go_ret2
      refine ⟨v, ?_, HY.out, ?_⟩
      · rw [key]
        rename_i hh
        clear HX HY HA HV HE key
        simp [*] <;> grind
      · first
          | exact HB.out.trans ((below_itoa _ _ _).mono HB.out.size)
          | exact HB.out
  · skip
    have HV : Hid (numV t = none) := by unfold Hid numV; rw [ha]
    obtain ⟨ev, h1, h2⟩ := hE.vars.syn
    have HA := Lib.hid (Tryz.strconv_Atoi_syntax t (by omega) ha ev w h1 h2)
    clear ha hE h1 h2
    go_enter Tryz.func104, Tryz.ntmps104
    go_wp2_with fail
    refine HA.out.mono ?_
    rintro e w1 ⟨N, rfl, _, _, hb⟩
    have HB := Lib.hid hb
    clear hb
    go_wp2
    go_ret2
    exact ⟨0, by rw [HV.out]; rfl, fun x hx => (by rw [HV.out] at hx; cases hx), HB.out⟩
  · skip
    have HV : Hid (numV t = none) := by unfold Hid numV; rw [ha]
    obtain ⟨ev, h1, h2⟩ := hE.vars.rng
    have HA := Lib.hid (Tryz.strconv_Atoi_range t (by omega) ha ev w h1 h2)
    clear ha hE h1 h2
    go_enter Tryz.func104, Tryz.ntmps104
    go_wp2_with fail
    refine HA.out.mono ?_
    rintro e w1 ⟨N, rfl, _, _, hb⟩
    have HB := Lib.hid hb
    clear hb
    go_wp2
    go_ret2
    exact ⟨_, by rw [HV.out]; rfl, fun x hx => (by rw [HV.out] at hx; cases hx), HB.out⟩
end Go.Proofs.YtmfoiceofhcicaaGreatDoor
