/- Walks: the law's wakes. -/
import Derived.Test.YtkkglaglnfebjaaDoorWPrint
namespace Go.Proofs.YtkkglaglnfebjaaDoor
open Go.RowKit Go.IntWalk

def wakeS : ByteArray := ⟨#[35, 44, 35, 35, 48, 46, 48, 35]⟩
def wakeP : PatD := ⟨[], [], false, [], [], 1, 1, 2, 3, 3⟩
theorem wake_parse : parseS wakeS = .ok ⟨[], [], false, [], [], ⟨1, 1, 2, 3, 3, 8⟩⟩ := by kernel_rfl
theorem wake_print : printR wakeP [] [] [] [] = ([35, 44, 35, 35, 48, 46, 48, 35], 0) := by kernel_rfl
theorem put_nil : PutOK [] [] := put_any (fun _ => []) [] (fun _ h => by cases h) (fun _ h => by cases h) (by simp)
theorem wakeSz : PatSz wakeP := ⟨by simp [wakeP], fun a h => by simp [wakeP] at h⟩

set_option maxRecDepth 100000 in
set_option maxHeartbeats 1000000 in
theorem wakes_any {B : Nat} (w : World) (hE : Env B w) :
    Calls Tryd.prog 10 #[] w fun e w' => e = .returned (.bool true) ∧ Keep [] w w' := by
  have hA := parse_any w wakeS hE (by decide)
  rw [wake_parse] at hA
  have HA := Lib.hid hA
  clear hA
  have hfe : ∀ (w : World), (binOp .eql 28 (.agg #[.int .i64 0, .int .i64 0]) (.agg #[.int .i64 0, .int .i64 0])).run Tryd.prog w = .ok (.bool true) w := fun _ => by kernel_rfl
  go_enter Tryd.func10, Tryd.ntmps10
  go_wp2_with fail
  refine HA.out.mono ?_
  rintro x w1 ⟨v1, v2, v3, v4, M1, M2, M3, rfl, o1, o2, o3, o4, b1, b2, b3, m1, m2, m3, hb⟩
  have hP : RdP w1 v1 v2 v3 v4 wakeP := ⟨o1.reads, o2.reads, o3.reads, o4.reads⟩
  have HP := Lib.hid hP
  obtain ⟨⟨A1, k1, rfl, _, _, _⟩, ⟨A2, k2, rfl, _, _, _⟩, ⟨A3, k3, rfl, _, _, _⟩, ⟨A4, k4, rfl, _, _, _⟩⟩ := hP
  have HK := Lib.hid (Keep.of_below (bs := []) hb)
  clear hb o1 o2 o3 o4 b1 b2 b3 m1 m2 m3
  go_wp2_with fail
  have HW : Hid (Keep [] w1 ((w1.alloc (boxP (.slice A1 wakeP.pre.length k1) (.slice A2 wakeP.suf.length k2) (.slice A3 wakeP.npre.length k3) (.slice A4 wakeP.nsuf.length k4) wakeP)).alloc (.cells #[.int .i64 0, .int .i64 0] 28))) := ((Keep.refl _ _).alloc _).alloc _
  have HPA := Lib.hid ((PatAt.new w1 (.slice A1 wakeP.pre.length k1) (.slice A2 wakeP.suf.length k2) (.slice A3 wakeP.npre.length k3) (.slice A4 wakeP.nsuf.length k4) wakeP).alloc (.cells #[.int .i64 0, .int .i64 0] 28))
  have HSP : Hid (Sp ((w1.alloc (boxP (.slice A1 wakeP.pre.length k1) (.slice A2 wakeP.suf.length k2) (.slice A3 wakeP.npre.length k3) (.slice A4 wakeP.nsuf.length k4) wakeP)).alloc (.cells #[.int .i64 0, .int .i64 0] 28)) (w1.heap.size + 1) 0 0) := Blk.new' _ _ _ _ (by simp)
  have hpr := print_any _ _ _ _ _ wakeP [] [] [] [] (HP.out.keep_nil HW.out) wakeSz put_nil put_nil put_nil put_nil (by simp)
  rw [wake_print] at hpr
  refine hpr.mono ?_
  rintro x w3 ⟨rfl, hk3⟩
  obtain ⟨p0, p1, p2, p3, p4, p5, p6, p7, p8, p9, pf, pz⟩ := (HPA.out.keep hk3 (by simp)).all
  obtain ⟨q0, q1, qf⟩ := Sp.all (Blk.keep HSP.out hk3 (by simp))
  have HK3 := Lib.hid ((HK.out.nil HW.out).nil hk3)
  clear hk3 HPA HSP HW HK HP hpr
  change w3.cell? _ = some (.int .i64 1) at p5
  change w3.cell? _ = some (.int .i64 1) at p6
  change w3.cell? _ = some (.int .i64 2) at p7
  change w3.cell? _ = some (.int .i64 3) at p8
  go_wp2
  go_ret
  exact ⟨rfl, HK3.out⟩
end Go.Proofs.YtkkglaglnfebjaaDoor
