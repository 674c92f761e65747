/- Walks: the law's cut. -/
import Derived.Test.YtkkglaglnfebjaaDoorWWakes
import Derived.BigRegion
namespace Go.Proofs.YtkkglaglnfebjaaDoor
open Go.RowKit Go.IntWalk

theorem min_nat (n : Nat) : ∃ m : Nat, min (n : Int) 30 = (m : Int) ∧ m = min n 30 := ⟨min n 30, by omega, rfl⟩
set_option maxRecDepth 100000 in
set_option maxHeartbeats 1000000 in
theorem cut_any (w : World) (A1 A2 A3 A4 : Option Addr) (n1 n2 n3 n4 k1 k2 k3 k4 : Nat) (p : PatD) (hp : RdP w (.slice A1 n1 k1) (.slice A2 n2 k2) (.slice A3 n3 k3) (.slice A4 n4 k4) p) :
    Calls Tryd.prog 15 #[patV (.slice A1 n1 k1) (.slice A2 n2 k2) (.slice A3 n3 k3) (.slice A4 n4 k4) p] w fun e w' =>
      e = .returned (patV (.slice A1 (min n1 30) k1) (.slice A2 (min n2 30) k2) (.slice A3 (min n3 30) k3) (.slice A4 (min n4 30) k4) (cutD p)) ∧ Keep [] w w' := by
  obtain ⟨a1, b1, c1⟩ := hp.pre.len
  obtain ⟨a2, b2, c2⟩ := hp.suf.len
  obtain ⟨a3, b3, c3⟩ := hp.npre.len
  obtain ⟨a4, b4, c4⟩ := hp.nsuf.len
  clear a1 a2 a3 a4 hp
  obtain ⟨m1, hm1, e1⟩ := min_nat n1
  obtain ⟨m2, hm2, e2⟩ := min_nat n2
  obtain ⟨m3, hm3, e3⟩ := min_nat n3
  obtain ⟨m4, hm4, e4⟩ := min_nat n4
  rw [← e1, ← e2, ← e3, ← e4]
  have d1 : m1 ≤ k1 := by omega
  have d2 : m2 ≤ k2 := by omega
  have d3 : m3 ≤ k3 := by omega
  have d4 : m4 ≤ k4 := by omega
  have f1 : (m1 : Int) ≤ k1 := by omega
  have f2 : (m2 : Int) ≤ k2 := by omega
  have f3 : (m3 : Int) ≤ k3 := by omega
  have f4 : (m4 : Int) ≤ k4 := by omega
  unfold maxLen at c1 c2 c3 c4
  clear e1 e2 e3 e4
  simp only [patV]
  go_enter Tryd.func15, Tryd.ntmps15
  go_upto_region 1 with fail
  go_cut [] (fun wx => Pat wx w.heap.size (.slice A1 m1 k1) (.slice A2 m2 k2) (.bool p.neg) (.slice A3 n3 k3) (.slice A4 n4 k4) p.mi p.mf p.xf p.g p.g2 ∧ Zp wx (w.heap.size + 1) ∧ Keep [] w wx)
  case first =>
    go_region
    go_wp2_with fail
    go_meet
    exact ⟨Blk.drew (Blk.alloc (Blk.new _ _ _) _), Blk.drew (Blk.new' _ _ _ _ (by simp)), (((Keep.refl _ _).alloc _).alloc _).drew⟩
  case rest =>
    obtain ⟨hQ, hZ, hK⟩ := hcut
    have HQ := Lib.hid hQ
    have HZ := Lib.hid hZ
    have HK := Lib.hid hK
    obtain ⟨p0, p1, p2, p3, p4, p5, p6, p7, p8, p9, pf⟩ := Pat.all hQ
    clear hQ hZ hK hm1 hm2 c1 c2 d1 d2 f1 f2
    have g3 := pf 3
    have g4 := pf 4
    clear pf p0 p1 p2 p5 p6 p7 p8 p9
    go_upto_region 2 with fail
    go_cut [] (fun wx => Pat wx w.heap.size (.slice A1 m1 k1) (.slice A2 m2 k2) (.bool p.neg) (.slice A3 m3 k3) (.slice A4 m4 k4) p.mi p.mf p.xf p.g p.g2 ∧ Zp wx (w.heap.size + 1) ∧ Keep [] w wx)
    case first =>
      go_region
      go_wp2_with fail
      go_meet
      have hlt : w.heap.size < wc.heap.size := Blk.lt HQ.out
      exact ⟨Blk.drew (Blk.set_ (Blk.set_ HQ.out 3 _) 4 _), Blk.drew (Blk.far (Blk.far HZ.out (by simp) _) (by simp) _), ((HK.out.setCell (p := ⟨w.heap.size, 3, none⟩) (.inr (Nat.le_refl _)) _).setCell (p := ⟨w.heap.size, 4, none⟩) (.inr (Nat.le_refl _)) _).drew⟩
    case rest =>
      obtain ⟨hQ, hZ, hK⟩ := hcut
      have HQ2 := Lib.hid hQ
      have HZ2 := Lib.hid hZ
      have HK2 := Lib.hid hK
      clear HQ HZ HK p3 p4 g3 g4
      obtain ⟨p0, p1, p2, p3, p4, p5, p6, p7, p8, p9, pf⟩ := Pat.all hQ
      obtain ⟨z0, z1, z2, z3, z4, z5, z6, z7, z8, z9, zf⟩ := Pat.all hZ
      clear hQ hZ hK
      go_wp2
      refine bodyPost_ret (v := .agg #[.slice A1 m1 k1, .slice A2 m2 k2, .bool p.neg, .slice A3 m3 k3, .slice A4 m4 k4, .int .i64 p.mi, .int .i64 p.mf, .int .i64 p.xf, .int .i64 p.g, .int .i64 p.g2]) ?_ rfl ⟨rfl, ?_⟩
      · simp [results, Tryd.results15, go_sem, z0, z1, z2, z3, z4, z5, z6, z7, z8, z9]
      · repeat (refine Keep.setCell ?_ (.inr (Nat.le_succ _)) _)
        exact HK2.out
end Go.Proofs.YtkkglaglnfebjaaDoor
