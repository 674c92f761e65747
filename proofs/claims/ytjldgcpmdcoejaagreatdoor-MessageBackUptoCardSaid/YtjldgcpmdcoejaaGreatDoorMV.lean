/- Walks: quotes and quoted of the reader of messages. -/
import Derived.Test.YtjldgcpmdcoejaaGreatDoorMS
namespace Go.Proofs.YtjldgcpmdcoejaaGreatDoor
open Go.RowKit

set_option maxRecDepth 100000 in
set_option maxHeartbeats 1000000 in
/-- quotes. -/
theorem quotes_any {B : Nat} (w : World) (g : Nat) (s : ByteArray) (p n d : Nat) (v : Value) (hs : List Bool) (h : Rr w g s p n d v) (hH : Hs B w v hs) (hl : hs.length ≤ 1000000) (hp : p < s.size) (hsz : s.size ≤ 1000000000) :
    Calls Tryz.prog 72 #[.pointer (some ⟨g, 0, none⟩)] w fun x w' => x = .returned (.bool (quotB s (topB hs) p)) ∧ ∃ k, w' = w.drewN k := by
  have H := Lib.hid h
  have HH := Lib.hid hH
  obtain ⟨c0, c1, c2, c3, c4, f1, f2, f3, f4⟩ := h.cells
  clear h hH
  have s1 : IntKind.i64.wrap ((p : Int) + 1) = (p : Int) + 1 := IntWalk.i64_in _ (by omega)
  by_cases hq : p + 1 = s.size
  · have HQ : Hid (quotB s (topB hs) p = false) := by unfold Hid quotB; rw [byt_out (by omega)]; rfl
    have e1 : ((p : Int) + 1 == (s.size : Int)) = true := by simp; omega
    have e2 : (p + 1 == s.size) = true := by simpa using hq
    have e3 : ((p : Int) + 1 = (s.size : Int)) := by omega
    clear hq
    go_enter Tryz.func72, Tryz.ntmps72
    go_wp2
    go_quiet (fail)
    go_wp2
    go_ret
    exact ⟨by rw [HQ.out]; rfl, _, rfl⟩
  · have hq2 : p + 1 < s.size := by omega
    have HB := Lib.hid (byt_in hq2)
    have e1 : ((p : Int) + 1 == (s.size : Int)) = false := by simp; omega
    have e2 : (p + 1 == s.size) = false := by simpa using hq
    have e3 : ¬ ((p : Int) + 1 = (s.size : Int)) := by omega
    have s2 : (0 : Int) ≤ (p : Int) + 1 := by omega
    have s3 : ((p : Int) + 1).toNat = p + 1 := by omega
    have s4 : (p : Int) + 1 < s.size := by omega
    clear hq
    go_enter Tryz.func72, Tryz.ntmps72
    go_wp2
    go_quiet (fail)
    go_wp2
    go_quiet (fail)
    clear s1 e1 e2 e3
    go_wp2_with (go_at_call 70; refine (inPl_any _ g s p n d v hs (H.out.drewN _) (HH.out.keep (bs := []) ((Keep.refl _ _).drewN _) (by simp)) hl).mono ?_; rintro x w3 ⟨rfl, k, rfl⟩)
    all_goals
      have key : quotB s (topB hs) p = ((s[p + 1].toNat : Int) == 123 || (s[p + 1].toNat : Int) == 125 || ((s[p + 1].toNat : Int) == 35 && topB hs)) := by unfold quotB; rw [HB.out]
      first
        | (exfalso; simp_all; done)
        | (go_ret; exact ⟨by rw [key]; simp_all, _, rfl⟩)
end Go.Proofs.YtjldgcpmdcoejaaGreatDoor
