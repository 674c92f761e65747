/- Walks: the closure of code.list: a text by its number. -/
import Derived.Test.YtmfoiceofhcicaaGreatDoorKV
namespace Go.Proofs.YtmfoiceofhcicaaGreatDoor
open Go.RowKit Go.IntWalk

set_option maxRecDepth 100000 in
set_option maxHeartbeats 1600000 in
/-- A text by its number. -/
theorem ltext_any (w : World) (B rx lx gx g xb : Nat) (v pv ov mv : Value) (b : List UInt8) (P : List ByteArray) (k f : Nat) (gd may : Bool)
    (hrx : Blk w rx 134 #[.pointer (some ⟨g, 0, none⟩)]) (hlx : Blk w lx 72 #[.pointer (some ⟨xb, 0, none⟩)]) (hgx : Blk w gx 4 #[.bool gd])
    (hx : Blk w xb 77 #[pv, ov, mv]) (hP : OwnS w B pv P) (hPl : P.length ≤ 1000000) (hR : Rdr w g v b k f) (hO : OwnU w B v b) (hf : f ≤ 1000) :
    Calls Tryz.prog 79 #[.bool may, .pointer (some ⟨rx, 0, none⟩), .pointer (some ⟨lx, 0, none⟩), .pointer (some ⟨gx, 0, none⟩)] w fun e w' =>
      e = .returned (.string (txt b P k f)) ∧ Blk w' gx 4 #[.bool (gd && txg b P may k f)] ∧ Rdr w' g v b (tkK b k f 2) (tkF b k f 2) ∧ Keep [g, gx] w w' := by
  have n1 : rx ≠ g := hrx.ne_ hR.blk (by decide)
  have n2 : lx ≠ g := hlx.ne_ hR.blk (by decide)
  have n3 : gx ≠ g := hgx.ne_ hR.blk (by decide)
  have n4 : xb ≠ g := hx.ne_ hR.blk (by decide)
  have q0 : w.cell? ⟨rx, 0, none⟩ = some (.pointer (some ⟨g, 0, none⟩)) := hrx.cell_eq rfl
  have HU := Lib.hid (ou16_any w g v b k f hf hR)
  have hnl := num16_lt b k f
  have HLX := Lib.hid hlx
  have HGX := Lib.hid hgx
  have HX := Lib.hid hx
  have HP := Lib.hid hP
  have hgb := hR.blk
  have HGB := Lib.hid hgb
  have HO := Lib.hid hO
  clear hrx hlx hgx hx hR hgb hO
  unfold txt txg
  obtain ⟨A, cap, rfl⟩ := hP.form
  clear hP
  generalize numU (tkB b k f 2) = n at *
  by_cases hlt : n < P.length
  · obtain ⟨s, hs⟩ : ∃ s, P[n]? = some s := ⟨_, List.getElem?_eq_getElem hlt⟩
    obtain ⟨pb, cap', he, _⟩ := HP.out.at hs
    injection he with he1 _ he3
    subst he1; subst he3
    rw [hs]
    have hlt' : (n : Int) < (P.length : Int) := by omega
    have HS := Lib.hid hs
    clear hs
    go_enter Tryz.func79, Tryz.ntmps79
    go_wp2_with (go_at_call 73; refine HU.out.mono ?_; rintro e w1 ⟨rfl, hR1, hk1⟩; have q1 : w1.cell? ⟨lx, 0, none⟩ = some (.pointer (some ⟨xb, 0, none⟩)) := (HLX.out.keep hk1 (by simpa using n2)).cell_eq rfl; have q2 : w1.cell? ⟨xb, 0, none⟩ = some (.slice (some ⟨pb, 0, none⟩) P.length cap) := (HX.out.keep hk1 (by simpa using n4)).cell_eq rfl; obtain ⟨pb', cap'', he', q3⟩ := (HP.out.keepR hk1 (by simpa using NoRow.blk HGB.out (by decide))).at HS.out; injection he' with he1' _ he3'; injection he1' with he1'; injection he1' with he1'; subst he1'; subst he3'; have HR1 := Lib.hid hR1; have HK1 := Lib.hid hk1; clear hR1 hk1 q0)
    go_ret
    exact ⟨rfl, by simpa using HGX.out.keep HK1.out (by simpa using n3), HR1.out, HK1.out.mono (fun x hx => .inl (by simp at hx; simp [hx]))⟩
  · have hs : P[n]? = none := List.getElem?_eq_none (by omega)
    have hlt' : ¬ (n : Int) < (P.length : Int) := by omega
    rw [hs]
    clear hs
    have HSET : Hid (∀ w1, Keep [g] w w1 → Rdr w1 g v b (tkK b k f 2) (tkF b k f 2) → Blk (w1.setCell ⟨gx, 0, none⟩ (.bool false)) gx 4 #[.bool false] ∧ Rdr (w1.setCell ⟨gx, 0, none⟩ (.bool false)) g v b (tkK b k f 2) (tkF b k f 2) ∧ Keep [g, gx] w (w1.setCell ⟨gx, 0, none⟩ (.bool false))) := fun w1 hk hr => by
      have hk2 : Keep [gx] w1 (w1.setCell ⟨gx, 0, none⟩ (.bool false)) := Keep.setCell (Keep.refl _ _) (.inl (by simp)) _
      have hG1 := HGX.out.keep hk (by simpa using n3)
      have hU1 := HO.out.keepR hk (by simpa using NoRow.blk HGB.out (by decide))
      have hU2 := hU1.keepR hk2 (by simpa using NoRow.blk hG1 (by decide))
      exact ⟨Blk.set_ hG1 0 _, hr.keepO hU2 hk2 (by simpa using n3.symm), (hk.mono (fun x hx => .inl (by simp at hx; simp [hx]))).trans hk2 (fun x hx => .inl (by simp at hx; simp [hx]))⟩
    cases may with
    | false =>
      go_enter Tryz.func79, Tryz.ntmps79
      go_wp2_with (go_at_call 73; refine HU.out.mono ?_; rintro e w1 ⟨rfl, hR1, hk1⟩; have q1 : w1.cell? ⟨lx, 0, none⟩ = some (.pointer (some ⟨xb, 0, none⟩)) := (HLX.out.keep hk1 (by simpa using n2)).cell_eq rfl; have q2 : w1.cell? ⟨xb, 0, none⟩ = some (.slice A P.length cap) := (HX.out.keep hk1 (by simpa using n4)).cell_eq rfl; have z3 : w1.frozen? ⟨gx, 0, none⟩ = false := (HGX.out.keep hk1 (by simpa using n3)).frozen 0; have z4 : w1.cell? ⟨gx, 0, none⟩ = some (.bool gd) := (HGX.out.keep hk1 (by simpa using n3)).cell_eq rfl; have HR1 := Lib.hid hR1; have HK1 := Lib.hid hk1; clear hR1 hk1 q0)
      go_ret
      obtain ⟨g1, g2, g3⟩ := HSET.out _ HK1.out HR1.out
      exact ⟨rfl, by simpa using g1, g2, g3⟩
    | true =>
      by_cases h5 : n = 65535
      · subst h5
        go_enter Tryz.func79, Tryz.ntmps79
        go_wp2_with (go_at_call 73; refine HU.out.mono ?_; rintro e w1 ⟨rfl, hR1, hk1⟩; have q1 : w1.cell? ⟨lx, 0, none⟩ = some (.pointer (some ⟨xb, 0, none⟩)) := (HLX.out.keep hk1 (by simpa using n2)).cell_eq rfl; have q2 : w1.cell? ⟨xb, 0, none⟩ = some (.slice A P.length cap) := (HX.out.keep hk1 (by simpa using n4)).cell_eq rfl; have z3 : w1.frozen? ⟨gx, 0, none⟩ = false := (HGX.out.keep hk1 (by simpa using n3)).frozen 0; have z4 : w1.cell? ⟨gx, 0, none⟩ = some (.bool gd) := (HGX.out.keep hk1 (by simpa using n3)).cell_eq rfl; have HR1 := Lib.hid hR1; have HK1 := Lib.hid hk1; clear hR1 hk1 q0)
        go_ret
        exact ⟨rfl, by simpa using HGX.out.keep HK1.out (by simpa using n3), HR1.out, HK1.out.mono (fun x hx => .inl (by simp at hx; simp [hx]))⟩
      · have h5' : ¬ (n : Int) = 65535 := by omega
        have h6 : (n == 65535) = false := by simpa using h5
        have HH6 := Lib.hid h6
        clear h6
        go_enter Tryz.func79, Tryz.ntmps79
        go_wp2_with (go_at_call 73; refine HU.out.mono ?_; rintro e w1 ⟨rfl, hR1, hk1⟩; have q1 : w1.cell? ⟨lx, 0, none⟩ = some (.pointer (some ⟨xb, 0, none⟩)) := (HLX.out.keep hk1 (by simpa using n2)).cell_eq rfl; have q2 : w1.cell? ⟨xb, 0, none⟩ = some (.slice A P.length cap) := (HX.out.keep hk1 (by simpa using n4)).cell_eq rfl; have z3 : w1.frozen? ⟨gx, 0, none⟩ = false := (HGX.out.keep hk1 (by simpa using n3)).frozen 0; have z4 : w1.cell? ⟨gx, 0, none⟩ = some (.bool gd) := (HGX.out.keep hk1 (by simpa using n3)).cell_eq rfl; have HR1 := Lib.hid hR1; have HK1 := Lib.hid hk1; clear hR1 hk1 q0)
        go_ret
        obtain ⟨g1, g2, g3⟩ := HSET.out _ HK1.out HR1.out
        exact ⟨rfl, by rw [HH6.out]; simpa using g1, g2, g3⟩
end Go.Proofs.YtmfoiceofhcicaaGreatDoor
