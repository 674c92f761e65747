/- Walks: choice of the reader of messages. -/
import Derived.Test.YtmfoiceofhcicaaGreatDoorMD
import Derived.Deep.RegionLawGrows
namespace Go.Proofs.YtmfoiceofhcicaaGreatDoor
open Go.RowKit

theorem OwnK.more {f B : Nat} {S T : Nat → Prop} {w' : World} {v' : Value} {cs : List CT} {us : List Value} {c : CT} {pv : Value} (hu : us.length = cs.length) (ho : w'.ownsRow B 70 2 v' (cs.length + 1) (caseC cs us ++ [.string c.1, pv]))
    (h : ∀ (j : Nat) (c : CT) (pv : Value), cs[j]? = some c → us[j]? = some pv → Lies f S w' pv c.2) (hc : Lies f T w' pv c.2) : OwnK f (fun b => S b ∨ T b) w' B v' (cs ++ [c]) := by
  refine ⟨us ++ [pv], by simp [hu], ?_, ?_⟩
  · rw [caseC_append _ _ _ _ hu, List.length_append]
    exact ho
  · intro j d qv hj hq
    rcases Nat.lt_or_ge j cs.length with hh | hh
    · rw [List.getElem?_append_left hh] at hj
      rw [List.getElem?_append_left (by omega)] at hq
      exact (h j d qv hj hq).mono (fun x hx => .inl hx)
    · rw [List.getElem?_append_right hh] at hj
      rw [List.getElem?_append_right (by omega), hu] at hq
      cases hi : j - cs.length with
      | zero => rw [hi] at hj hq; simp at hj hq; subst hj; subst hq; exact hc.mono (fun x hx => .inr hx)
      | succ k => rw [hi] at hj; simp at hj
end Go.Proofs.YtmfoiceofhcicaaGreatDoor
