/- Walks: message.Parse. -/
import Derived.Test.YtjldgcpmdcoejaaGreatDoorMM
import Derived.Test.YtjldgcpmdcoejaaGreatDoorWCheck
import Derived.Defers
import Derived.Recover
namespace Go.Proofs.YtjldgcpmdcoejaaGreatDoor
open Go.RowKit

theorem ta_nil (W : World) : (Instr.typeAssert .nilIface 20 59 true).run Tryz.prog W = .ok (.tuple #[.agg #[.int .i64 0, .int .i64 0], .bool false]) W := by
  simp [Instr.typeAssert, go_sem]
theorem ta_stop (W : World) (v : Value) : (Instr.typeAssert (.iface 59 v) 20 59 true).run Tryz.prog W = .ok (.tuple #[v, .bool true]) W := by
  simp [Instr.typeAssert, go_sem]
set_option maxRecDepth 100000 in
set_option maxHeartbeats 1000000 in
theorem catch_idle (a b : Nat) (w : World) :
    CallsD Tryz.prog 35 #[.pointer (some ⟨a, 0, none⟩), .pointer (some ⟨b, 0, none⟩)] .returning w fun e u' w' => e = .returned (.tuple #[]) ∧ u' = .returning ∧ Keep [] w w' := by
  refine callsD_of_wpS Tryz.func35 rfl fun c₀ cs hu => ?_
  apply wpS_seq
  apply wpS_region
  simp [wpOpsS, go_sem, recoverD, hu, Tryz.ntmps35, Exit.thenS, ta_nil]
  apply wpS_seq
  apply wpS_region
  simp [wpOpsS, go_sem, Exit.thenS]
  refine wpS_cond (t := false) (by simp [Act.eval, Array.replicate]) ?_
  simp only [Bool.false_eq_true, if_false]
  refine wpS_of_wp (wp_skip ?_)
  cases c₀
  simp_all [bodyPostS, results, Tryz.results35]
  exact (Keep.refl _ _).alloc _
set_option maxRecDepth 100000 in
set_option maxHeartbeats 1000000 in
theorem catch_stop (a b : Nat) (er p : Int) (w : World) (va : Value) (ta tb : TypeId) (x y : Value) (ha : Blk w a ta #[va]) (hb : Blk w b tb #[x, y]) (hab : a ≠ b) :
    CallsD Tryz.prog 35 #[.pointer (some ⟨a, 0, none⟩), .pointer (some ⟨b, 0, none⟩)] (.panicking [{ v := .iface 59 (.agg #[.int .i64 er, .int .i64 p]), recovered := false }]) w fun e u' w' => e = .returned (.tuple #[]) ∧ u' = .panicking [{ v := .iface 59 (.agg #[.int .i64 er, .int .i64 p]), recovered := true }] ∧ Blk w' a ta #[.slice none 0 0] ∧ Blk w' b tb #[.int .i64 er, .int .i64 p] ∧ Keep [a, b] w w' := by
  have a0 : w.cell? ⟨a, 0, none⟩ = some va := ha.cell_eq rfl
  have b0 : w.cell? ⟨b, 0, none⟩ = some x := hb.cell_eq rfl
  have b1 : w.cell? ⟨b, 1, none⟩ = some y := hb.cell_eq rfl
  have za := ha.frozen 0
  have zb := hb.frozen 0
  have zb1 := hb.frozen 1
  have hla := ha.lt
  have hlb := hb.lt
  refine callsD_of_wpS Tryz.func35 rfl fun c₀ cs hu => ?_
  apply wpS_seq
  apply wpS_region
  simp [wpOpsS, go_sem, recoverD, hu, Tryz.ntmps35, Exit.thenS, ta_stop]
  apply wpS_seq
  apply wpS_region
  simp [wpOpsS, go_sem, Exit.thenS]
  refine wpS_cond (t := true) (by simp [Act.eval, Array.replicate]) ?_
  simp only [if_true]
  refine wpS_of_wp ?_
  have key : (#[Value.pointer (some ⟨a, 0, none⟩), Value.pointer (some ⟨b, 0, none⟩)] ++ ((((((((Array.replicate 13 undef).setIfInBounds 3 (Value.iface 59 (.agg #[.int .i64 er, .int .i64 p]))).setIfInBounds 4 (Value.tuple #[.agg #[.int .i64 er, .int .i64 p], .bool true])).setIfInBounds 2 (Value.tuple #[.agg #[.int .i64 er, .int .i64 p], .bool true])).setIfInBounds 5 (Value.agg #[.int .i64 er, .int .i64 p])).setIfInBounds 6 (Value.bool true)).setIfInBounds 0 (Value.pointer (some ⟨w.heap.size, 0, none⟩))).setIfInBounds 1 (Value.bool true)).setIfInBounds 7 (Value.bool true) : Array Value) = #[.pointer (some ⟨a, 0, none⟩), .pointer (some ⟨b, 0, none⟩), .pointer (some ⟨w.heap.size, 0, none⟩), .bool true, .tuple #[.agg #[.int .i64 er, .int .i64 p], .bool true], .iface 59 (.agg #[.int .i64 er, .int .i64 p]), .tuple #[.agg #[.int .i64 er, .int .i64 p], .bool true], .agg #[.int .i64 er, .int .i64 p], .bool true, .bool true, undef, undef, undef, undef, undef] := by kernel_rfl
  rw [key]
  clear key
  go_region
  have hA : Blk ((((w.setCell ⟨a, 0, none⟩ (.slice none 0 0)).setCell ⟨b, 0, none⟩ (.int .i64 er)).setCell ⟨b, 1, none⟩ (.int .i64 p)).alloc (.cells #[.int .i64 er, .int .i64 p] 59)).drew a ta #[.slice none 0 0] :=
    (((Blk.set_ ha 0 _).far (p := ⟨b, 0, none⟩) hab _).far (p := ⟨b, 1, none⟩) hab _).alloc _
  have hB : Blk ((((w.setCell ⟨a, 0, none⟩ (.slice none 0 0)).setCell ⟨b, 0, none⟩ (.int .i64 er)).setCell ⟨b, 1, none⟩ (.int .i64 p)).alloc (.cells #[.int .i64 er, .int .i64 p] 59)).drew b tb #[.int .i64 er, .int .i64 p] :=
    (Blk.set_ (Blk.set_ (hb.far (p := ⟨a, 0, none⟩) (fun h => hab h.symm) _) 0 _) 1 _).alloc _
  have hK : Keep [a, b] w ((((w.setCell ⟨a, 0, none⟩ (.slice none 0 0)).setCell ⟨b, 0, none⟩ (.int .i64 er)).setCell ⟨b, 1, none⟩ (.int .i64 p)).alloc (.cells #[.int .i64 er, .int .i64 p] 59)).drew :=
    ((((((Keep.refl [a, b] w).setCell (p := ⟨a, 0, none⟩) (.inl (by simp)) _).setCell (p := ⟨b, 0, none⟩) (.inl (by simp)) _).setCell (p := ⟨b, 1, none⟩) (.inl (by simp)) _).alloc _).drew)
  generalize ((((w.setCell ⟨a, 0, none⟩ (.slice none 0 0)).setCell ⟨b, 0, none⟩ (.int .i64 er)).setCell ⟨b, 1, none⟩ (.int .i64 p)).alloc (.cells #[.int .i64 er, .int .i64 p] 59)).drew = W at *
  clear a0 b0 b1 za zb zb1 hla hlb ha hb
  cases c₀
  simp only [bodyPostS, results, Tryz.results35]
  exact ⟨trivial, _, rfl, .tuple #[], by simp, rfl, rfl, hA, hB, hK⟩

set_option maxRecDepth 100000 in
set_option maxHeartbeats 4000000 in
/-- Parse, of a text that is read. -/
theorem parse_ok {B : Nat} (s : ByteArray) (w : World) (hE : EnvM B w) (hs : s.size ≤ 4096) (hb : brk s < 0) (l : List PT) (n : Nat) (hm : msgF s (s.size + 1) 0 false [] 0 0 = .ok l s.size n) :
    Calls Tryz.prog 18 #[.string s] w fun e w' => ∃ u S, e = .returned (.tuple #[u, .agg #[.int .i64 0, .int .i64 0]]) ∧ Lies (s.size + 2) S w' u l ∧ (∀ b, S b → w.heap.size ≤ b ∧ b < w'.heap.size) ∧ Keep [] w w' := by
  have HE := Lib.hid hE
  have hmf : ∀ (fn : Fn) (first cap : Array Value) (w : World), (Instr.makeFunc fn first cap).run Tryz.prog w = .ok (.func fn first cap) w := fun _ _ _ _ => rfl
  have HC : Hid (∀ W, Calls Tryz.prog 30 #[.string s] W fun e w' => e = .returned (.agg #[.int .i64 0, .int .i64 0]) ∧ Below W.heap.size W w') := fun W => (check_any s W (by omega)).mono fun e w' ⟨h1, h2⟩ => ⟨by rw [h1]; unfold spotErr spotAt; rw [if_pos hb, if_pos hb], h2⟩
  have HM := Lib.hid hm
  have e1 : ¬ (4096 : Int) < s.size := by omega
  clear hE hb hm
  go_enter_defers Tryz.func18, Tryz.ntmps18
  go_wp2_with fail
  refine (HC.out _).mono ?_
  rintro e w1 ⟨rfl, hb1⟩
  have hA1 := ((Blk.new w 22 #[.slice none 0 0]).alloc (.cells #[.int .i64 0, .int .i64 0] 36)).below hb1 (by simp; omega)
  have hB1 := (Blk.new' (w.alloc (.cells #[.slice none 0 0] 22)) 36 #[.int .i64 0, .int .i64 0] (w.heap.size + 1) (by simp)).below hb1 (by simp)
  have hK1 : Keep [] w w1 := (((Keep.refl [] w).alloc _).alloc _).below_ge hb1 (by simp; omega)
  obtain ⟨a, ha⟩ : ∃ a, w.heap.size = a := ⟨_, rfl⟩
  rw [ha] at hA1 hB1 ⊢
  have HA := Lib.hid ha
  have HA1 := Lib.hid hA1
  have HB1 := Lib.hid hB1
  have HK1 := Lib.hid hK1
  have hz1 : a + 1 < w1.heap.size := hB1.lt
  clear hb1 hA1 hB1 hK1 ha
  go_wp2_with fail
  have hR2 : Rr ((w1.alloc (.cells #[.int .i64 0, .int .i64 0] 36)).alloc (.cells #[.string s, .int .i64 0, .int .i64 0, .int .i64 0, .slice none 0 0] 64)) (w1.heap.size + 1) s 0 0 0 (.slice none 0 0) := Blk.new' _ _ _ _ (by simp)
  have hK2 : Keep [] w1 ((w1.alloc (.cells #[.int .i64 0, .int .i64 0] 36)).alloc (.cells #[.string s, .int .i64 0, .int .i64 0, .int .i64 0, .slice none 0 0] 64)) := ((Keep.refl [] w1).alloc _).alloc _
  generalize (w1.alloc (.cells #[.int .i64 0, .int .i64 0] 36)).alloc (.cells #[.string s, .int .i64 0, .int .i64 0, .int .i64 0, .slice none 0 0] 64) = W2 at *
  have hE2 : EnvM B W2 := (HE.out.keep HK1.out (by simp)).keep hK2 (by simp)
  have hMC := msg_all s (by omega) (s.size + 1) W2 B (w1.heap.size + 1) 0 0 0 (.slice none 0 0) [] hE2 (by have := HE.out.env.le; have := HK1.out.size; omega) hR2 (Hs.nil _ _) (Nat.zero_le _) (by omega) (by omega) rfl (by rw [show topB [] = false from rfl, HM.out]; simp) (by rw [show topB [] = false from rfl, HM.out]; simp)
  rw [show topB [] = false from rfl, HM.out] at hMC
  have HMC := Lib.hid hMC
  have HK2 := Lib.hid hK2
  have hgl := hR2.lt
  generalize hgg : w1.heap.size + 1 = g at *
  have HG := Lib.hid hgg
  clear hgg hMC hK2 hE2 hR2 HC
  refine HMC.out.mono ?_
  rintro x w3 ⟨u, v3, S, rfl, hL3, hS3, hR3, _, _, hk3, _⟩
  have hk23 : Keep [g] w1 w3 := ((HK2.out).mono (fun x hx => by cases hx)).same (hk3.mono (fun x hx => .inl (by simpa [Value.ownBlock] using hx)))
  have hA3 := HA1.out.keep hk23 (by have := HG.out; simp; omega)
  have hB3 := HB1.out.keep hk23 (by have := HG.out; simp; omega)
  obtain ⟨A3, m3, k3, rfl⟩ := hL3.form
  obtain ⟨c0, c1, _⟩ := hR3.cells
  have a0 : w3.cell? ⟨a, 0, none⟩ = some (.slice none 0 0) := hA3.cell_eq rfl
  have b0 : w3.cell? ⟨a + 1, 0, none⟩ = some (.int .i64 0) := hB3.cell_eq rfl
  have b1 : w3.cell? ⟨a + 1, 1, none⟩ = some (.int .i64 0) := hB3.cell_eq rfl
  have za := hA3.frozen 0
  have zb := hB3.frozen 0
  have zb1 := hB3.frozen 1
  have HL3 := Lib.hid hL3
  have HS3 := Lib.hid hS3
  have HA3 := Lib.hid hA3
  have HB3 := Lib.hid hB3
  have HK3 := Lib.hid hk23
  have hga : a + 1 < g := by have := HG.out; omega
  clear hL3 hS3 hR3 hk3 hk23 hA3 hB3 HMC HK2
  go_wp2_with fail
  refine leaves_cons (f := 35) (args := #[.pointer (some ⟨a, 0, none⟩), .pointer (some ⟨a + 1, 0, none⟩)]) (by simp) (by simp [go_sem]) ?_
  refine (catch_idle a (a + 1) _).mono ?_
  rintro e u' w4 ⟨rfl, rfl, hk4⟩
  have hkd : Keep [a, a + 1] w3 ((((w3.setCell ⟨a, 0, none⟩ (.slice A3 m3 k3)).setCell ⟨a, 0, none⟩ (.slice A3 m3 k3)).setCell ⟨a + 1, 0, none⟩ (.int .i64 0)).setCell ⟨a + 1, 1, none⟩ (.int .i64 0)) :=
    ((((Keep.refl [a, a + 1] w3).setCell (p := ⟨a, 0, none⟩) (.inl (by simp)) _).setCell (p := ⟨a, 0, none⟩) (.inl (by simp)) _).setCell (p := ⟨a + 1, 0, none⟩) (.inl (by simp)) _).setCell (p := ⟨a + 1, 1, none⟩) (.inl (by simp)) _
  have hAD : Blk ((((w3.setCell ⟨a, 0, none⟩ (.slice A3 m3 k3)).setCell ⟨a, 0, none⟩ (.slice A3 m3 k3)).setCell ⟨a + 1, 0, none⟩ (.int .i64 0)).setCell ⟨a + 1, 1, none⟩ (.int .i64 0)) a 22 #[.slice A3 m3 k3] :=
    ((Blk.set_ (Blk.set_ HA3.out 0 _) 0 _).far (p := ⟨a + 1, 0, none⟩) (by simp) _).far (p := ⟨a + 1, 1, none⟩) (by simp) _
  have hBD : Blk ((((w3.setCell ⟨a, 0, none⟩ (.slice A3 m3 k3)).setCell ⟨a, 0, none⟩ (.slice A3 m3 k3)).setCell ⟨a + 1, 0, none⟩ (.int .i64 0)).setCell ⟨a + 1, 1, none⟩ (.int .i64 0)) (a + 1) 36 #[.int .i64 0, .int .i64 0] :=
    Blk.set_ (Blk.set_ ((HB3.out.far (p := ⟨a, 0, none⟩) (by simp) _).far (p := ⟨a, 0, none⟩) (by simp) _) 0 _) 1 _
  have hA4 := hAD.keep hk4 (by simp)
  have hB4 := hBD.keep hk4 (by simp)
  have hk34 := hkd.nil hk4
  clear hk4 hkd hAD hBD a0 b0 b1 za zb zb1 c0 c1
  have a0 : w4.cell? ⟨a, 0, none⟩ = some (.slice A3 m3 k3) := hA4.cell_eq rfl
  have b0 : w4.cell? ⟨a + 1, 0, none⟩ = some (.int .i64 0) := hB4.cell_eq rfl
  have b1 : w4.cell? ⟨a + 1, 1, none⟩ = some (.int .i64 0) := hB4.cell_eq rfl
  have hz4 := hk34.size
  have hz3 := HK3.out.size
  have hS4 : ∀ b, S b → w.heap.size ≤ b ∧ b < w4.heap.size ∧ b ≠ a ∧ b ≠ a + 1 := fun b hb => by
    obtain ⟨h1, h2, _⟩ := HS3.out b hb
    have := HA.out
    exact ⟨by omega, by omega, by omega, by omega⟩
  simp [Leaves, settle, results, Tryz.results18, go_sem, a0, b0, b1]
  refine ⟨S, HL3.out.keep hk34 (fun x hx hc => ?_), fun b hb => ⟨(hS4 b hb).1, (hS4 b hb).2.1⟩, ?_⟩
  · have := hS4 x hc
    simp at hx
    omega
  · refine ((HK1.out.trans HK3.out (fun x hx => .inr ?_)).trans hk34 (fun x hx => .inr ?_))
    · simp at hx; have := HA.out; omega
    · simp at hx; have := HA.out; omega
end Go.Proofs.YtjldgcpmdcoejaaGreatDoor
