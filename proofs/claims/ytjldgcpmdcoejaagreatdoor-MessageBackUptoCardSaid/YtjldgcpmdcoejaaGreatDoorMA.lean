/- argument of the reader of messages, whatever stands there, where the plain answer is a part. -/
import Derived.Test.YtjldgcpmdcoejaaGreatDoorMH
import Derived.Test.YtjldgcpmdcoejaaGreatDoorMI
namespace Go.Proofs.YtjldgcpmdcoejaaGreatDoor
open Go.RowKit

theorem wtest (wd : ByteArray) (l : List UInt8) : (wd.toList == l) = decide (wd = ⟨l.toArray⟩) := by
  have := bytes_beq wd ⟨l.toArray⟩
  rw [toList_lit l] at this
  exact this
theorem types_ne {wd : ByteArray} (h : memW typesW wd = true) : wd.toList.isEmpty = false := by
  refine not_empty fun h0 => ?_
  have hm := (memW_iff typesW wd).1 h
  simp only [typesW, List.mem_cons, List.not_mem_nil, or_false] at hm
  rcases hm with rfl | rfl | rfl | rfl | rfl | rfl | rfl <;> exact absurd h0 (by decide)
theorem arg_any {B f : Nat} (s : ByteArray) (hM : MsgC s f) (hs : s.size ≤ 1000000000) (w : World) (g p n d : Nat) (v : Value) (hl : List Bool) (hE : EnvM B w) (hBg : B ≤ g) (h : Rr w g s p n d v) (hH : Hs B w v hl) (hp : p < s.size) (hn : n ≤ 1024) (hd : d ≤ 8) (hld : hl.length = d)
    (r : PT) (q n' : Nat) (ha : argS s (fun h' => msgF s f (d + 1) h' []) f p n d = .ok r q n') :
    Calls Tryz.prog 69 #[.pointer (some ⟨g, 0, none⟩)] w (APost f w B g s p d v hl (.ok r q n')) := by
  unfold argS at ha
  cases hnm : nameS s (p + 1) with
  | out => rw [hnm] at ha; cases ha
  | bad e x => rw [hnm] at ha; cases ha
  | ok nm p1 =>
    rw [hnm] at ha
    simp only [RR.thenM] at ha
    split at ha
    · rename_i h125
      cases ha
      exact arg_bare w g s p n d v hl hE hBg h hH hp hs hn nm p1 hnm h125
    · rename_i h125
      cases hs2 : signS s 44 (skip s p1) with
      | out => rw [hs2] at ha; cases ha
      | bad e x => rw [hs2] at ha; cases ha
      | ok u2 p2 =>
        rw [hs2] at ha
        simp only at ha
        cases hs3 : nameS s (skip s p2) with
        | out => rw [hs3] at ha; cases ha
        | bad e x => rw [hs3] at ha; cases ha
        | ok wd p3 =>
          rw [hs3] at ha
          simp only at ha
          split at ha
          · cases ha
          · rename_i hk0
            split at ha
            · rename_i hk3
              have hw : wd ≠ selectW ∧ wd ≠ pluralW ∧ wd ≠ ordinalW ∧ memW typesW wd = true := by
                unfold wordK at hk3
                split at hk3
                · cases hk3
                · split at hk3
                  · cases hk3
                  · split at hk3
                    · cases hk3
                    · split at hk3
                      · rename_i h1 h2 h3 h4
                        exact ⟨h1, h2, h3, h4⟩
                      · cases hk3
              have e4 : (wd.toList == [115, 101, 108, 101, 99, 116]) = false := by rw [wtest]; exact decide_eq_false hw.1
              have e5 : (wd.toList == [112, 108, 117, 114, 97, 108]) = false := by rw [wtest]; exact decide_eq_false hw.2.1
              have e6 : (wd.toList == [115, 101, 108, 101, 99, 116, 111, 114, 100, 105, 110, 97, 108]) = false := by rw [wtest]; exact decide_eq_false hw.2.2.1
              split at ha
              · rename_i h44
                cases hst : styleS s (skip s p3 + 1) with
                | out => rw [hst] at ha; cases ha
                | bad e x => rw [hst] at ha; cases ha
                | ok st p4 =>
                  rw [hst] at ha
                  simp only at ha
                  cases hs6 : signS s 125 p4 with
                  | out => rw [hs6] at ha; cases ha
                  | bad e x => rw [hs6] at ha; cases ha
                  | ok u5 p5 =>
                    rw [hs6] at ha
                    cases ha
                    exact arg_styled w g s p n d v hl hE hBg h hH hp hs hn nm wd st p1 p2 p3 p4 q hnm h125 hs2 hs3 e4 e5 e6 hw.2.2.2 (types_ne hw.2.2.2) h44 hst hs6
              · rename_i h44
                cases hs6 : signS s 125 (skip s p3) with
                | out => rw [hs6] at ha; cases ha
                | bad e x => rw [hs6] at ha; cases ha
                | ok u5 p5 =>
                  rw [hs6] at ha
                  cases ha
                  exact arg_typed w g s p n d v hl hE hBg h hH hp hs hn nm wd p1 p2 p3 q hnm h125 hs2 hs3 e4 e5 e6 hw.2.2.2 (types_ne hw.2.2.2) h44 hs6
            · rename_i hk3
              cases hs4 : signS s 44 p3 with
              | out => rw [hs4] at ha; cases ha
              | bad e x => rw [hs4] at ha; cases ha
              | ok u4 p4 =>
                rw [hs4] at ha
                simp only at ha
                cases hch : choiS s (fun p n => msgF s f (d + 1) (decide (wordK wd ≠ 4)) [] p n) f (wordK wd) p p4 n d with
                | out => rw [show choiS s (msgF s f (d + 1) (decide (wordK wd ≠ 4)) []) f (wordK wd) p p4 n d = _ from hch] at ha; cases ha
                | bad e x => rw [show choiS s (msgF s f (d + 1) (decide (wordK wd ≠ 4)) []) f (wordK wd) p p4 n d = _ from hch] at ha; cases ha
                | ok oc p5 n5 =>
                  rw [show choiS s (msgF s f (d + 1) (decide (wordK wd ≠ 4)) []) f (wordK wd) p p4 n d = _ from hch] at ha
                  simp only [RM.then] at ha
                  cases hs6 : signS s 125 p5 with
                  | out => rw [hs6] at ha; cases ha
                  | bad e x => rw [hs6] at ha; cases ha
                  | ok u6 p6 =>
                    rw [hs6] at ha
                    cases ha
                    obtain ⟨off, cs⟩ := oc
                    by_cases h4 : wd = selectW
                    · have hk : wordK wd = 4 := by unfold wordK; rw [if_pos h4]
                      rw [hk] at hch ⊢
                      exact arg_ch4 w g s hM p n d v hl hE hBg h hH hp hs hn hd hld nm wd p1 p2 p3 p4 p5 q n' off cs hnm h125 hs2 hs3 (by rw [wtest]; exact decide_eq_true h4) hs4 hch (fun _ => hs6)
                    · have e4 : (wd.toList == [115, 101, 108, 101, 99, 116]) = false := by rw [wtest]; exact decide_eq_false h4
                      by_cases h5 : wd = pluralW
                      · have hk : wordK wd = 5 := by unfold wordK; rw [if_neg h4, if_pos h5]
                        rw [hk] at hch ⊢
                        exact arg_ch5 w g s hM p n d v hl hE hBg h hH hp hs hn hd hld nm wd p1 p2 p3 p4 p5 q n' off cs hnm h125 hs2 hs3 e4 (by rw [wtest]; exact decide_eq_true h5) hs4 hch (fun _ => hs6)
                      · have e5 : (wd.toList == [112, 108, 117, 114, 97, 108]) = false := by rw [wtest]; exact decide_eq_false h5
                        by_cases h6 : wd = ordinalW
                        · have hk : wordK wd = 6 := by unfold wordK; rw [if_neg h4, if_neg h5, if_pos h6]
                          rw [hk] at hch ⊢
                          exact arg_ch6 w g s hM p n d v hl hE hBg h hH hp hs hn hd hld nm wd p1 p2 p3 p4 p5 q n' off cs hnm h125 hs2 hs3 e4 e5 (by rw [wtest]; exact decide_eq_true h6) hs4 hch (fun _ => hs6)
                        · exfalso
                          unfold wordK at hk0 hk3
                          rw [if_neg h4, if_neg h5, if_neg h6] at hk0 hk3
                          split at hk0
                          · rename_i ht
                            rw [if_pos ht] at hk3
                            exact hk3 rfl
                          · exact hk0 rfl
end Go.Proofs.YtjldgcpmdcoejaaGreatDoor
