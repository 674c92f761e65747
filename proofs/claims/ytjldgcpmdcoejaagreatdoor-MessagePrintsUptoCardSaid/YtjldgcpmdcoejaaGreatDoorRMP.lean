/- Walks: message.Parse. Walks: form, Print, Check of messages. Walks: wakes of the law of messages; message.Plain. Walks: plain, right, form, Print, Check of messages at any parts; vernacularref19.Check's plain side. Walks: vernacularref19.Check. Walks: vernacularlaw19.MessagePrints: it answers true. Parts that came in, opened. MessagePrints holds, in its second form: Print tells what the law says, and Check too, for every parts of bounded bulk. The library's variables as the program's text lays them, tied by the card. -/
import Derived.Test.YtjldgcpmdcoejaaGreatDoorMM
import Derived.Test.YtjldgcpmdcoejaaGreatDoorWCheck
import Derived.Defers
import Derived.Recover
import Derived.Test.YtjldgcpmdcoejaaGreatDoorPU
import Derived.Test.YtjldgcpmdcoejaaGreatDoorPZ
import Derived.Test.YtjldgcpmdcoejaaGreatDoorPT3
import Derived.Test.YtjldgcpmdcoejaaGreatDoorQO
import Derived.Test.YtjldgcpmdcoejaaGreatDoorQS
import Derived.Test.YtjldgcpmdcoejaaGreatDoorQR
import Derived.Test.YtjldgcpmdcoejaaGreatDoorRM
import Derived.Test.YtjldgcpmdcoejaaGreatDoorPB
import Derived.Deep.DeepWitnessRowRef
namespace Go.Proofs.YtjldgcpmdcoejaaGreatDoor
open Go.RowKit

theorem ta_nil (W : World) : (Instr.typeAssert .nilIface 20 59 true).run Tryz.prog W = .ok (.tuple #[.agg #[.int .i64 0, .int .i64 0], .bool false]) W := by
  simp [Instr.typeAssert, go_sem]
theorem ta_stop (W : World) (v : Value) : (Instr.typeAssert (.iface 59 v) 20 59 true).run Tryz.prog W = .ok (.tuple #[v, .bool true]) W := by
  simp [Instr.typeAssert, go_sem]
set_option maxRecDepth 100000 in
set_option maxHeartbeats 1000000 in
theorem catch_idle (a b : Nat) (w : World) :
    CallsD Tryz.prog 35 #[.pointer (some ⟨a, 0, none⟩), .pointer (some ⟨b, 0, none⟩)] .returning w fun e u' w' => e = .returned (.tuple #[]) ∧ u' = .returning ∧ Keep [] w w' := by
  refine callsD_of_wpS Tryz.func35 rfl fun c₀ cs hu => ?_
  apply wpS_seq
  apply wpS_region
  simp [wpOpsS, go_sem, recoverD, hu, Tryz.ntmps35, Exit.thenS, ta_nil]
  apply wpS_seq
  apply wpS_region
  simp [wpOpsS, go_sem, Exit.thenS]
  refine wpS_cond (t := false) (by simp [Act.eval, Array.replicate]) ?_
  simp only [Bool.false_eq_true, if_false]
  refine wpS_of_wp (wp_skip ?_)
  cases c₀
  simp_all [bodyPostS, results, Tryz.results35]
  exact (Keep.refl _ _).alloc _
set_option maxRecDepth 100000 in
set_option maxHeartbeats 1000000 in
theorem catch_stop (a b : Nat) (er p : Int) (w : World) (va : Value) (ta tb : TypeId) (x y : Value) (ha : Blk w a ta #[va]) (hb : Blk w b tb #[x, y]) (hab : a ≠ b) :
    CallsD Tryz.prog 35 #[.pointer (some ⟨a, 0, none⟩), .pointer (some ⟨b, 0, none⟩)] (.panicking [{ v := .iface 59 (.agg #[.int .i64 er, .int .i64 p]), recovered := false }]) w fun e u' w' => e = .returned (.tuple #[]) ∧ u' = .panicking [{ v := .iface 59 (.agg #[.int .i64 er, .int .i64 p]), recovered := true }] ∧ Blk w' a ta #[.slice none 0 0] ∧ Blk w' b tb #[.int .i64 er, .int .i64 p] ∧ Keep [a, b] w w' := by
  have a0 : w.cell? ⟨a, 0, none⟩ = some va := ha.cell_eq rfl
  have b0 : w.cell? ⟨b, 0, none⟩ = some x := hb.cell_eq rfl
  have b1 : w.cell? ⟨b, 1, none⟩ = some y := hb.cell_eq rfl
  have za := ha.frozen 0
  have zb := hb.frozen 0
  have zb1 := hb.frozen 1
  have hla := ha.lt
  have hlb := hb.lt
  refine callsD_of_wpS Tryz.func35 rfl fun c₀ cs hu => ?_
  apply wpS_seq
  apply wpS_region
  simp [wpOpsS, go_sem, recoverD, hu, Tryz.ntmps35, Exit.thenS, ta_stop]
  apply wpS_seq
  apply wpS_region
  simp [wpOpsS, go_sem, Exit.thenS]
  refine wpS_cond (t := true) (by simp [Act.eval, Array.replicate]) ?_
  simp only [if_true]
  refine wpS_of_wp ?_
  have key : (#[Value.pointer (some ⟨a, 0, none⟩), Value.pointer (some ⟨b, 0, none⟩)] ++ ((((((((Array.replicate 13 undef).setIfInBounds 3 (Value.iface 59 (.agg #[.int .i64 er, .int .i64 p]))).setIfInBounds 4 (Value.tuple #[.agg #[.int .i64 er, .int .i64 p], .bool true])).setIfInBounds 2 (Value.tuple #[.agg #[.int .i64 er, .int .i64 p], .bool true])).setIfInBounds 5 (Value.agg #[.int .i64 er, .int .i64 p])).setIfInBounds 6 (Value.bool true)).setIfInBounds 0 (Value.pointer (some ⟨w.heap.size, 0, none⟩))).setIfInBounds 1 (Value.bool true)).setIfInBounds 7 (Value.bool true) : Array Value) = #[.pointer (some ⟨a, 0, none⟩), .pointer (some ⟨b, 0, none⟩), .pointer (some ⟨w.heap.size, 0, none⟩), .bool true, .tuple #[.agg #[.int .i64 er, .int .i64 p], .bool true], .iface 59 (.agg #[.int .i64 er, .int .i64 p]), .tuple #[.agg #[.int .i64 er, .int .i64 p], .bool true], .agg #[.int .i64 er, .int .i64 p], .bool true, .bool true, undef, undef, undef, undef, undef] := by kernel_rfl
  rw [key]
  clear key
  go_region
  have hA : Blk ((((w.setCell ⟨a, 0, none⟩ (.slice none 0 0)).setCell ⟨b, 0, none⟩ (.int .i64 er)).setCell ⟨b, 1, none⟩ (.int .i64 p)).alloc (.cells #[.int .i64 er, .int .i64 p] 59)).drew a ta #[.slice none 0 0] :=
    (((Blk.set_ ha 0 _).far (p := ⟨b, 0, none⟩) hab _).far (p := ⟨b, 1, none⟩) hab _).alloc _
  have hB : Blk ((((w.setCell ⟨a, 0, none⟩ (.slice none 0 0)).setCell ⟨b, 0, none⟩ (.int .i64 er)).setCell ⟨b, 1, none⟩ (.int .i64 p)).alloc (.cells #[.int .i64 er, .int .i64 p] 59)).drew b tb #[.int .i64 er, .int .i64 p] :=
    (Blk.set_ (Blk.set_ (hb.far (p := ⟨a, 0, none⟩) (fun h => hab h.symm) _) 0 _) 1 _).alloc _
  have hK : Keep [a, b] w ((((w.setCell ⟨a, 0, none⟩ (.slice none 0 0)).setCell ⟨b, 0, none⟩ (.int .i64 er)).setCell ⟨b, 1, none⟩ (.int .i64 p)).alloc (.cells #[.int .i64 er, .int .i64 p] 59)).drew :=
    ((((((Keep.refl [a, b] w).setCell (p := ⟨a, 0, none⟩) (.inl (by simp)) _).setCell (p := ⟨b, 0, none⟩) (.inl (by simp)) _).setCell (p := ⟨b, 1, none⟩) (.inl (by simp)) _).alloc _).drew)
  generalize ((((w.setCell ⟨a, 0, none⟩ (.slice none 0 0)).setCell ⟨b, 0, none⟩ (.int .i64 er)).setCell ⟨b, 1, none⟩ (.int .i64 p)).alloc (.cells #[.int .i64 er, .int .i64 p] 59)).drew = W at *
  clear a0 b0 b1 za zb zb1 hla hlb ha hb
  cases c₀
  simp only [bodyPostS, results, Tryz.results35]
  exact ⟨trivial, _, rfl, .tuple #[], by simp, rfl, rfl, hA, hB, hK⟩

set_option maxRecDepth 100000 in
set_option maxHeartbeats 4000000 in
/-- Parse, of a text that is read. -/
theorem parse_ok {B : Nat} (s : ByteArray) (w : World) (hE : EnvM B w) (hs : s.size ≤ 4096) (hb : brk s < 0) (l : List PT) (n : Nat) (hm : msgF s (s.size + 1) 0 false [] 0 0 = .ok l s.size n) :
    Calls Tryz.prog 18 #[.string s] w fun e w' => ∃ u S, e = .returned (.tuple #[u, .agg #[.int .i64 0, .int .i64 0]]) ∧ Lies (s.size + 2) S w' u l ∧ (∀ b, S b → w.heap.size ≤ b ∧ b < w'.heap.size) ∧ Keep [] w w' := by
  have HE := Lib.hid hE
  have hmf : ∀ (fn : Fn) (first cap : Array Value) (w : World), (Instr.makeFunc fn first cap).run Tryz.prog w = .ok (.func fn first cap) w := fun _ _ _ _ => rfl
  have HC : Hid (∀ W, Calls Tryz.prog 30 #[.string s] W fun e w' => e = .returned (.agg #[.int .i64 0, .int .i64 0]) ∧ Below W.heap.size W w') := fun W => (check_any s W (by omega)).mono fun e w' ⟨h1, h2⟩ => ⟨by rw [h1]; unfold spotErr spotAt; rw [if_pos hb, if_pos hb], h2⟩
  have HM := Lib.hid hm
  have e1 : ¬ (4096 : Int) < s.size := by omega
  clear hE hb hm
  go_enter_defers Tryz.func18, Tryz.ntmps18
  go_wp2_with fail
  refine (HC.out _).mono ?_
  rintro e w1 ⟨rfl, hb1⟩
  have hA1 := ((Blk.new w 22 #[.slice none 0 0]).alloc (.cells #[.int .i64 0, .int .i64 0] 36)).below hb1 (by simp; omega)
  have hB1 := (Blk.new' (w.alloc (.cells #[.slice none 0 0] 22)) 36 #[.int .i64 0, .int .i64 0] (w.heap.size + 1) (by simp)).below hb1 (by simp)
  have hK1 : Keep [] w w1 := (((Keep.refl [] w).alloc _).alloc _).below_ge hb1 (by simp; omega)
  obtain ⟨a, ha⟩ : ∃ a, w.heap.size = a := ⟨_, rfl⟩
  rw [ha] at hA1 hB1 ⊢
  have HA := Lib.hid ha
  have HA1 := Lib.hid hA1
  have HB1 := Lib.hid hB1
  have HK1 := Lib.hid hK1
  have hz1 : a + 1 < w1.heap.size := hB1.lt
  clear hb1 hA1 hB1 hK1 ha
  go_wp2_with fail
  have hR2 : Rr ((w1.alloc (.cells #[.int .i64 0, .int .i64 0] 36)).alloc (.cells #[.string s, .int .i64 0, .int .i64 0, .int .i64 0, .slice none 0 0] 64)) (w1.heap.size + 1) s 0 0 0 (.slice none 0 0) := Blk.new' _ _ _ _ (by simp)
  have hK2 : Keep [] w1 ((w1.alloc (.cells #[.int .i64 0, .int .i64 0] 36)).alloc (.cells #[.string s, .int .i64 0, .int .i64 0, .int .i64 0, .slice none 0 0] 64)) := ((Keep.refl [] w1).alloc _).alloc _
  generalize (w1.alloc (.cells #[.int .i64 0, .int .i64 0] 36)).alloc (.cells #[.string s, .int .i64 0, .int .i64 0, .int .i64 0, .slice none 0 0] 64) = W2 at *
  have hE2 : EnvM B W2 := (HE.out.keep HK1.out (by simp)).keep hK2 (by simp)
  have hMC := msg_all s (by omega) (s.size + 1) W2 B (w1.heap.size + 1) 0 0 0 (.slice none 0 0) [] hE2 (by have := HE.out.env.le; have := HK1.out.size; omega) hR2 (Hs.nil _ _) (Nat.zero_le _) (by omega) (by omega) rfl (by rw [show topB [] = false from rfl, HM.out]; simp) (by rw [show topB [] = false from rfl, HM.out]; simp)
  rw [show topB [] = false from rfl, HM.out] at hMC
  have HMC := Lib.hid hMC
  have HK2 := Lib.hid hK2
  have hgl := hR2.lt
  generalize hgg : w1.heap.size + 1 = g at *
  have HG := Lib.hid hgg
  clear hgg hMC hK2 hE2 hR2 HC
  refine HMC.out.mono ?_
  rintro x w3 ⟨u, v3, S, rfl, hL3, hS3, hR3, _, _, hk3, _⟩
  have hk23 : Keep [g] w1 w3 := ((HK2.out).mono (fun x hx => by cases hx)).same (hk3.mono (fun x hx => .inl (by simpa [Value.ownBlock] using hx)))
  have hA3 := HA1.out.keep hk23 (by have := HG.out; simp; omega)
  have hB3 := HB1.out.keep hk23 (by have := HG.out; simp; omega)
  obtain ⟨A3, m3, k3, rfl⟩ := hL3.form
  obtain ⟨c0, c1, _⟩ := hR3.cells
  have a0 : w3.cell? ⟨a, 0, none⟩ = some (.slice none 0 0) := hA3.cell_eq rfl
  have b0 : w3.cell? ⟨a + 1, 0, none⟩ = some (.int .i64 0) := hB3.cell_eq rfl
  have b1 : w3.cell? ⟨a + 1, 1, none⟩ = some (.int .i64 0) := hB3.cell_eq rfl
  have za := hA3.frozen 0
  have zb := hB3.frozen 0
  have zb1 := hB3.frozen 1
  have HL3 := Lib.hid hL3
  have HS3 := Lib.hid hS3
  have HA3 := Lib.hid hA3
  have HB3 := Lib.hid hB3
  have HK3 := Lib.hid hk23
  have hga : a + 1 < g := by have := HG.out; omega
  clear hL3 hS3 hR3 hk3 hk23 hA3 hB3 HMC HK2
  go_wp2_with fail
  refine leaves_cons (f := 35) (args := #[.pointer (some ⟨a, 0, none⟩), .pointer (some ⟨a + 1, 0, none⟩)]) (by simp) (by simp [go_sem]) ?_
  refine (catch_idle a (a + 1) _).mono ?_
  rintro e u' w4 ⟨rfl, rfl, hk4⟩
  have hkd : Keep [a, a + 1] w3 ((((w3.setCell ⟨a, 0, none⟩ (.slice A3 m3 k3)).setCell ⟨a, 0, none⟩ (.slice A3 m3 k3)).setCell ⟨a + 1, 0, none⟩ (.int .i64 0)).setCell ⟨a + 1, 1, none⟩ (.int .i64 0)) :=
    ((((Keep.refl [a, a + 1] w3).setCell (p := ⟨a, 0, none⟩) (.inl (by simp)) _).setCell (p := ⟨a, 0, none⟩) (.inl (by simp)) _).setCell (p := ⟨a + 1, 0, none⟩) (.inl (by simp)) _).setCell (p := ⟨a + 1, 1, none⟩) (.inl (by simp)) _
  have hAD : Blk ((((w3.setCell ⟨a, 0, none⟩ (.slice A3 m3 k3)).setCell ⟨a, 0, none⟩ (.slice A3 m3 k3)).setCell ⟨a + 1, 0, none⟩ (.int .i64 0)).setCell ⟨a + 1, 1, none⟩ (.int .i64 0)) a 22 #[.slice A3 m3 k3] :=
    ((Blk.set_ (Blk.set_ HA3.out 0 _) 0 _).far (p := ⟨a + 1, 0, none⟩) (by simp) _).far (p := ⟨a + 1, 1, none⟩) (by simp) _
  have hBD : Blk ((((w3.setCell ⟨a, 0, none⟩ (.slice A3 m3 k3)).setCell ⟨a, 0, none⟩ (.slice A3 m3 k3)).setCell ⟨a + 1, 0, none⟩ (.int .i64 0)).setCell ⟨a + 1, 1, none⟩ (.int .i64 0)) (a + 1) 36 #[.int .i64 0, .int .i64 0] :=
    Blk.set_ (Blk.set_ ((HB3.out.far (p := ⟨a, 0, none⟩) (by simp) _).far (p := ⟨a, 0, none⟩) (by simp) _) 0 _) 1 _
  have hA4 := hAD.keep hk4 (by simp)
  have hB4 := hBD.keep hk4 (by simp)
  have hk34 := hkd.nil hk4
  clear hk4 hkd hAD hBD a0 b0 b1 za zb zb1 c0 c1
  have a0 : w4.cell? ⟨a, 0, none⟩ = some (.slice A3 m3 k3) := hA4.cell_eq rfl
  have b0 : w4.cell? ⟨a + 1, 0, none⟩ = some (.int .i64 0) := hB4.cell_eq rfl
  have b1 : w4.cell? ⟨a + 1, 1, none⟩ = some (.int .i64 0) := hB4.cell_eq rfl
  have hz4 := hk34.size
  have hz3 := HK3.out.size
  have hS4 : ∀ b, S b → w.heap.size ≤ b ∧ b < w4.heap.size ∧ b ≠ a ∧ b ≠ a + 1 := fun b hb => by
    obtain ⟨h1, h2, _⟩ := HS3.out b hb
    have := HA.out
    exact ⟨by omega, by omega, by omega, by omega⟩
  simp [Leaves, settle, results, Tryz.results18, go_sem, a0, b0, b1]
  refine ⟨S, HL3.out.keep hk34 (fun x hx hc => ?_), fun b hb => ⟨(hS4 b hb).1, (hS4 b hb).2.1⟩, ?_⟩
  · have := hS4 x hc
    simp at hx
    omega
  · refine ((HK1.out.trans HK3.out (fun x hx => .inr ?_)).trans hk34 (fun x hx => .inr ?_))
    · simp at hx; have := HA.out; omega
    · simp at hx; have := HA.out; omega
end Go.Proofs.YtjldgcpmdcoejaaGreatDoor

namespace Go.Proofs.YtjldgcpmdcoejaaGreatDoor
open Go.RowKit

def formV (r : List UInt8 × Int) : Value := .tuple #[.string ⟨r.1.toArray⟩, .int .i64 r.2]
set_option maxRecDepth 100000 in
set_option maxHeartbeats 8000000 in
/-- form. -/
theorem form_any (n : Nat) (l : List PT) (S : Nat → Prop) (v : Value) (B : Nat) (w : World) (hE : EnvM B w) (hh : Lies n S w v l) (hS : ∀ x, S x → x < w.heap.size) (hq : allF PlainOK n l) (ho : allO offOK n l) (hb : bulkF n l ≤ 900000000) :
    Calls Tryz.prog 25 #[v] w fun e w' => e = .returned (formV (formF n l)) ∧ Keep [] w w' := by
  obtain ⟨A, m, cap, rfl⟩ := hh.form
  have HR : Hid (Calls Tryz.prog 51 #[.slice A m cap, .bool false] w fun e w' => e = .returned (.bool (rightF n l false)) ∧ Keep [] w w') := right_any n l false S _ B w hE hh hq (by omega)
  obtain ⟨f, hf⟩ : ∃ f, formF n l = f := ⟨_, rfl⟩
  have HF : Hid (formF n l = f) := hf
  rw [hf]
  cases hr : rightF n l false with
  | false =>
    rw [hr] at HR
    have hf1 : f = ([], 2) := by rw [← hf]; unfold formF; rw [if_pos hr]
    subst hf1
    clear hE hh hq ho hb hf HF hr hS
    go_enter Tryz.func25, Tryz.ntmps25
    go_wp2_with (go_at_call 51; refine HR.out.mono ?_; rintro e w1 ⟨rfl, hk1⟩; have HK1 := Lib.hid hk1; clear hk1)
    exact bodyPost_ret (v := formV ([], 2)) (by simp [results, Tryz.results25, go_sem, formV]) rfl ⟨rfl, HK1.out⟩
  | true =>
    rw [hr] at HR
    have hf1 : f = if 1024 < sizeF n l ∨ 8 < depthF n l ∨ 4096 < (writeF n l false).length then ([], 3) else (writeF n l false, 0) := by rw [← hf]; unfold formF; rw [if_neg (by rw [hr]; decide)]
    have HF1 := Lib.hid hf1
    have HL := Lib.hid hh
    have HE := Lib.hid hE
    have HS := Lib.hid hS
    have HO := Lib.hid ho
    have HSZ : ∀ W, Lies n S W (.slice A m cap) l → Hid (Calls Tryz.prog 53 #[.slice A m cap] W fun e w' => e = .returned (.int .i64 (sizeF n l)) ∧ Keep [] W w') := fun W hW => size_any n l S _ W hW (by omega)
    have HDP : ∀ W, Lies n S W (.slice A m cap) l → Hid (Calls Tryz.prog 22 #[.slice A m cap] W fun e w' => e = .returned (.int .i64 (depthF n l)) ∧ Keep [] W w') := fun W hW => depth_any n l S _ W hW (by omega)
    have HWR : ∀ b W, EnvM B W → B ≤ b → Lies n S W (.slice A m cap) l → (∀ x, S x → x < b) → Bld b [] W → Hid (Calls Tryz.prog 52 #[.pointer (some ⟨b, 0, none⟩), .slice A m cap, .bool false] W (WPost b [] (writeF n l false) W)) := fun b W h1 h2 h3 h4 h5 => write_any n l false S _ b [] B W h1 h2 h3 h4 h5 ho (by omega) (by simp; omega)
    have hwl := allO_len n l false ho
    have hnw : (writeF n l false).length ≤ 90000000000 := by omega
    clear hE hh hq ho hb hf HF hr hS hf1 hwl
    generalize sizeF n l = sz at *
    generalize depthF n l = dp at *
    generalize writeF n l false = out at *
    go_enter Tryz.func25, Tryz.ntmps25
    go_wp2_with (first
      | (go_at_call 51; refine HR.out.mono ?_; rintro e w1 ⟨rfl, hk1⟩; have HK1 := Lib.hid hk1; have HB1 := Lib.hid hk1.toBelow; have HL1 := Lib.hid (HL.out.keep hk1 (by simp)); have HE1 := Lib.hid (HE.out.keep hk1 (by simp)); clear hk1)
      | (go_at_call 52; refine (HWR w1.heap.size (w1.alloc (.cells #[.pointer none, .slice none 0 0] 83)) (HE1.out.keep ((Keep.refl [] w1).alloc _) (by simp)) HE1.out.env.le (HL1.out.keep (bs := []) ((Keep.refl [] w1).alloc _) (by simp)) (fun x hx => Nat.lt_of_lt_of_le (HS.out x hx) HB1.out.size) (Bld.new' w1 _ rfl)).out.mono ?_; rintro e w2 ⟨rfl, hb2, hk2⟩; have hz1 := HB1.out.size; have HB2 := Lib.hid (HB1.out.trans ((((Keep.refl [] w1).alloc _).toBelow.trans (hk2.below.mono (Nat.le_refl _))).mono hz1)); have HBB2 := Lib.hid hb2; have HL2 := Lib.hid (HL1.out.keep (bs := []) (Keep.of_below (((Keep.refl [] w1).alloc _).toBelow.trans (hk2.below.mono (Nat.le_refl _)))) (by simp)); clear hb2 hk2)
      | (go_at_call 53; refine (HSZ _ HL2.out).out.mono ?_; rintro e w3 ⟨rfl, hk3⟩; have HL3 := Lib.hid (HL2.out.keep hk3 (by simp)); have HBB3 := Lib.hid (HBB2.out.keep_nil hk3); have HB3 := Lib.hid (HB2.out.trans (hk3.toBelow.mono HB2.out.size)); clear hk3)
      | (go_at_call 22; refine (HDP _ HL3.out).out.mono ?_; rintro e w4 ⟨rfl, hk4⟩; have HBB4 := Lib.hid (HBB3.out.keep_nil hk4); have HB4 := Lib.hid (HB3.out.trans (hk4.toBelow.mono HB3.out.size)); clear hk4)
      | (go_at_call 54; refine (bld_len HBB4.out).mono ?_; rintro e w5 ⟨rfl, hw5⟩; subst hw5)
      | (go_at_call 55; refine (bld_str HBB4.out).mono ?_; rintro e w6 ⟨rfl, _, hb6, _⟩; have HB6 := Lib.hid (HB4.out.trans (hb6.mono (by have := HB1.out.size; omega))); clear hb6))
    all_goals
      first
        | (have hf : f = ([], 3) := by (rw [HF1.out, if_pos (by omega)])
           subst hf
           refine bodyPost_ret (v := formV ([], 3)) (by simp [results, Tryz.results25, go_sem, formV]) rfl ⟨rfl, ?_⟩
           first | exact Keep.of_below HB4.out | exact Keep.of_below HB3.out)
        | (have hf : f = (out, 0) := by (rw [HF1.out, if_neg (by omega)])
           subst hf
           exact bodyPost_ret (v := formV (out, 0)) (by simp [results, Tryz.results25, go_sem, formV]) rfl ⟨rfl, Keep.of_below HB6.out⟩)
set_option maxRecDepth 100000 in
/-- Print. -/
theorem print_any (n : Nat) (l : List PT) (S : Nat → Prop) (v : Value) (B : Nat) (w : World) (hE : EnvM B w) (hh : Lies n S w v l) (hS : ∀ x, S x → x < w.heap.size) (hq : allF PlainOK n l) (ho : allO offOK n l) (hb : bulkF n l ≤ 900000000) :
    Calls Tryz.prog 11 #[v] w fun e w' => e = .returned (formV (formF n l)) ∧ Keep [] w w' := by
  have HF := Lib.hid (form_any n l S v B w hE hh hS hq ho hb)
  clear hE hh hS hq ho hb
  generalize formF n l = f at *
  obtain ⟨r, e⟩ := f
  unfold formV at HF ⊢
  go_enter Tryz.func11, Tryz.ntmps11
  go_wp2_with (go_at_call 25; refine HF.out.mono ?_; rintro e w1 ⟨rfl, hk1⟩; have HK1 := Lib.hid hk1; clear hk1)
  exact bodyPost_ret (v := .tuple #[.string ⟨r.toArray⟩, .int .i64 e]) (by simp [results, Tryz.results11, go_sem]) rfl ⟨rfl, HK1.out⟩
set_option maxRecDepth 100000 in
/-- Check. -/
theorem mcheck_any (n : Nat) (l : List PT) (S : Nat → Prop) (v : Value) (B : Nat) (w : World) (hE : EnvM B w) (hh : Lies n S w v l) (hS : ∀ x, S x → x < w.heap.size) (hq : allF PlainOK n l) (ho : allO offOK n l) (hb : bulkF n l ≤ 900000000) :
    Calls Tryz.prog 13 #[v] w fun e w' => e = .returned (.int .i64 (formF n l).2) ∧ Keep [] w w' := by
  have HF := Lib.hid (form_any n l S v B w hE hh hS hq ho hb)
  clear hE hh hS hq ho hb
  generalize formF n l = f at *
  obtain ⟨r, e⟩ := f
  unfold formV at HF
  go_enter Tryz.func13, Tryz.ntmps13
  go_wp2_with (go_at_call 25; refine HF.out.mono ?_; rintro e w1 ⟨rfl, hk1⟩; have HK1 := Lib.hid hk1; clear hk1)
  go_ret
  exact ⟨rfl, HK1.out⟩
end Go.Proofs.YtjldgcpmdcoejaaGreatDoor

namespace Go.Proofs.YtjldgcpmdcoejaaGreatDoor
open Go.RowKit

def wB : ByteArray := ⟨#[123, 110, 44, 32, 112, 108, 117, 114, 97, 108, 44, 32, 111, 102, 102, 115, 101, 116, 58, 49, 32, 61, 48, 123, 110, 111, 110, 101, 125, 32, 111, 116, 104, 101, 114, 123, 35, 32, 111, 102, 32, 123, 119, 125, 125, 125]⟩
def wL : List PT := match msgF wB (wB.size + 1) 0 false [] 0 0 with | .ok l _ _ => l | _ => []
def okB (p : PT) : Bool := decide (p.tx.size ≤ 1000000000) && decide (p.nm.size ≤ 1000000000) && (decide (p.k ≠ 3) || decide (p.ty.size = 0))
def ofB (p : PT) : Bool := decide (0 ≤ p.off) && decide (p.off ≤ 999999999)
def allQ (q : PT → Bool) : Nat → List PT → Bool
  | 0, _ => true
  | n + 1, l => l.all fun p => q p && p.cs.all fun c => allQ q n c.2
theorem allQ_F {q : PT → Bool} {Q : PT → Prop} (h : ∀ p, q p = true → Q p) : ∀ (n : Nat) (l : List PT), allQ q n l = true → allF Q n l
  | 0, _, _ => trivial
  | n + 1, l, hl => fun p hp => by
    have := List.all_eq_true.1 hl p hp
    rw [Bool.and_eq_true] at this
    exact ⟨h p this.1, fun c hc => allQ_F h n c.2 (List.all_eq_true.1 this.2 c hc)⟩
theorem allQ_O {q : PT → Bool} {Q : PT → Prop} (h : ∀ p, q p = true → Q p) : ∀ (n : Nat) (l : List PT), allQ q n l = true → allO Q n l
  | 0, _, _ => trivial
  | n + 1, l, hl => fun p hp => by
    have := List.all_eq_true.1 hl p hp
    rw [Bool.and_eq_true] at this
    exact ⟨h p this.1, fun c hc => allQ_O h n c.2 (List.all_eq_true.1 this.2 c hc)⟩
theorem okB_ok (p : PT) (h : okB p = true) : PlainOK p := by
  simp only [okB, Bool.and_eq_true, Bool.or_eq_true, decide_eq_true_eq] at h
  exact plain_ok p h.1.1 h.1.2 (fun h3 => h.2.resolve_left (fun hn => hn h3))
theorem ofB_ok (p : PT) (h : ofB p = true) : offOK p := by
  simp only [ofB, Bool.and_eq_true, decide_eq_true_eq] at h
  exact h
theorem w_msg : msgF wB (wB.size + 1) 0 false [] 0 0 = .ok wL wB.size 5 := by kernel_rfl
theorem w_brk : brk wB = -1 := by kernel_rfl
theorem w_ok : allQ okB (wB.size + 2) wL = true := by kernel_rfl
theorem w_of : allQ ofB (wB.size + 2) wL = true := by kernel_rfl
theorem w_bulk : bulkF (wB.size + 2) wL ≤ 900000000 := of_decide_eq_true (by kernel_rfl)
theorem w_form : formF (wB.size + 2) wL = (wB.data.toList, 0) := by kernel_rfl
theorem w_one : ∃ p, wL = [p] ∧ p.cs.length = 2 := ⟨wL.head (by intro h; exact absurd (congrArg List.length h) (by decide +kernel)), by kernel_rfl, by kernel_rfl⟩
set_option maxRecDepth 100000 in
set_option maxHeartbeats 2000000 in
/-- wakes is true. -/
theorem wakes_any {B : Nat} (w : World) (hE : EnvM B w) :
    Calls Tryz.prog 9 #[] w fun e w' => e = .returned (.bool true) ∧ Keep [] w w' := by
  have HE := Lib.hid hE
  obtain ⟨p, hp1, hp2⟩ := w_one
  have HP : Hid (Calls Tryz.prog 18 #[.string wB] w fun e w' => ∃ u S, e = .returned (.tuple #[u, .agg #[.int .i64 0, .int .i64 0]]) ∧ Lies (wB.size + 1 + 1) S w' u wL ∧ (∀ b, S b → w.heap.size ≤ b ∧ b < w'.heap.size) ∧ Keep [] w w') := parse_ok wB w hE (by decide) (by rw [w_brk]; decide) wL 5 w_msg
  have HPR : ∀ (S : Nat → Prop) (v : Value) W, EnvM B W → Lies (wB.size + 1 + 1) S W v wL → (∀ x, S x → x < W.heap.size) → Hid (Calls Tryz.prog 11 #[v] W fun e w' => e = .returned (.tuple #[.string wB, .int .i64 0]) ∧ Keep [] W w') := fun S v W h1 h2 h3 => by
    have := print_any (wB.size + 2) wL S v B W h1 h2 h3 (allQ_F okB_ok _ _ w_ok) (allQ_O ofB_ok _ _ w_of) w_bulk
    rw [w_form] at this
    exact this
  rw [hp1] at HP HPR
  clear hE hp1
  generalize wB.size + 1 = m at HP HPR
  unfold wB at HP HPR
  go_enter Tryz.func9, Tryz.ntmps9
  go_wp2_with fail
  refine HP.out.mono ?_
  rintro e w1 ⟨u, S, rfl, hL, hS, hk⟩
  have hE1 := HE.out.keep hk (by simp)
  obtain ⟨A, cap, rfl, _, hat⟩ := lies_open hL
  obtain ⟨b, o, cv, rfl, hb, hP, hC⟩ := hat 0 p rfl
  have hP' : PAt w1 b o p cv := by simpa using hP
  obtain ⟨Ac, cc, rfl⟩ := hC.formL
  rw [hp2] at hP'
  rw [List.length_singleton] at hL ⊢
  have hkA : Keep [] w1 (w1.alloc (.cells #[.int .i64 0, .int .i64 0] 36)) := (Keep.refl [] w1).alloc _
  have HPR2 := HPR S _ (w1.alloc (.cells #[.int .i64 0, .int .i64 0] 36)) (hE1.keep hkA (by simp)) (hL.keep hkA (by simp)) (fun x hx => by have := (hS x hx).2; simp; omega)
  have HB1 : Hid (Blk (w1.alloc (.cells #[.int .i64 0, .int .i64 0] 36)) w1.heap.size 36 #[.int .i64 0, .int .i64 0]) := Blk.new _ _ _
  have HP2 := Lib.hid (hP'.keep hkA hb)
  have HK2 := Lib.hid (hk.nil hkA)
  have hb2 : b < (w1.alloc (.cells #[.int .i64 0, .int .i64 0] 36)).heap.size := by simp; omega
  clear hat hP hP' hL hS hk hE1 hkA hC HPR
  go_wp2_with fail
  refine HPR2.out.mono ?_
  rintro e w2 ⟨rfl, hk2⟩
  have hx := HB1.out.keep hk2 (by simp)
  have x0 : w2.cell? ⟨w1.heap.size, 0, none⟩ = some (.int .i64 0) := hx.cell_eq rfl
  have x1 : w2.cell? ⟨w1.heap.size, 1, none⟩ = some (.int .i64 0) := hx.cell_eq rfl
  obtain ⟨a0, a1, a2, a3, a4, a5, a6⟩ := HP2.out.keep hk2 hb2
  have hbz : b < w2.heap.size := Nat.lt_of_lt_of_le hb2 hk2.size
  have HK3 := Lib.hid (HK2.out.nil hk2)
  clear hk2 hx
  go_wp2_with fail
  go_ret
  exact ⟨rfl, HK3.out⟩
/-- What message.Plain tells. -/
def plainT (s : ByteArray) : ByteArray := if 4096 < s.size ∨ ¬ brk s < 0 then ⟨#[]⟩ else ⟨(dressL false s.data.toList).toArray⟩
set_option maxRecDepth 100000 in
/-- message.Plain. -/
theorem mplain_any {B : Nat} (s : ByteArray) (w : World) (hE : EnvM B w) (hs : s.size ≤ 9223372036854775000) :
    Calls Tryz.prog 15 #[.string s] w fun e w' => e = .returned (.string (plainT s)) ∧ Keep [] w w' := by
  have HE := Lib.hid hE
  have HC := Lib.hid (check_any s w hs)
  have hfs := fun W => field_spot W (.int .i64 (spotErr s)) (.int .i64 (spotAt s))
  obtain ⟨t, ht⟩ : ∃ t, plainT s = t := ⟨_, rfl⟩
  rw [ht]
  by_cases h1 : 4096 < s.size
  · have HT := Lib.hid (show t = ⟨#[]⟩ by rw [← ht]; unfold plainT; rw [if_pos (.inl h1)])
    have e1 : (4096 : Int) < s.size := by omega
    clear ht hE
    go_enter Tryz.func15, Tryz.ntmps15
    go_wp2_with fail
    go_ret
    exact ⟨by rw [HT.out]; rfl, Keep.refl _ _⟩
  · have e1 : ¬ (4096 : Int) < s.size := by omega
    by_cases h2 : brk s < 0
    · have HT := Lib.hid (show t = ⟨(dressL false s.data.toList).toArray⟩ by rw [← ht]; unfold plainT; rw [if_neg (fun h => h.elim (fun h => h1 h) (fun h => h h2))])
      have HD : ∀ W, EnvM B W → Hid (Calls Tryz.prog 31 #[.string s, .bool false] W fun e w' => e = .returned (.string t) ∧ Keep [] W w') := fun W hW => by rw [HT.out]; exact dress_any s false W hW (by omega)
      have h3 : spotErr s = 0 := if_pos h2
      rw [h3] at HC hfs
      clear ht hE HT h2 h3
      go_enter Tryz.func15, Tryz.ntmps15
      go_wp2_with (first | (go_at_call 30; refine HC.out.mono ?_; rintro e w1 ⟨rfl, hb1⟩; have HK1 := Lib.hid (Keep.of_below (bs := []) hb1); clear hb1) | (go_at_call 31; refine (HD _ (HE.out.keep HK1.out (by simp))).out.mono ?_; rintro e w2 ⟨rfl, hk2⟩; have HK2 := Lib.hid (HK1.out.nil hk2); clear hk2))
      go_ret
      exact ⟨rfl, HK2.out⟩
    · have HT := Lib.hid (show t = ⟨#[]⟩ by rw [← ht]; unfold plainT; rw [if_pos (.inr h2)])
      have h3 : spotErr s = 6 := if_neg h2
      rw [h3] at HC hfs
      clear ht hE h2 h3
      go_enter Tryz.func15, Tryz.ntmps15
      go_wp2_with (go_at_call 30; refine HC.out.mono ?_; rintro e w1 ⟨rfl, hb1⟩; have HK1 := Lib.hid (Keep.of_below (bs := []) hb1); clear hb1)
      go_ret
      exact ⟨by rw [HT.out]; rfl, HK1.out⟩
end Go.Proofs.YtjldgcpmdcoejaaGreatDoor

namespace Go.Proofs.YtjldgcpmdcoejaaGreatDoor
open Go.RowKit

theorem plain_all (p : PT) (h1 : p.tx.size ≤ 1000000000) (h2 : p.nm.size ≤ 1000000000) (h3 : p.st.size ≤ 1000000000) : PlainOK p := fun h A c B w hE => by
  by_cases hk1 : p.k = 1
  · exact plain_1 p h A c w hk1 h1
  · by_cases hk2 : p.k = 2
    · exact plain_2 p h A c w hk2
    · by_cases hk3 : p.k = 3
      · by_cases ht : p.ty.size = 0
        · exact plain_3 p h A c w hk3 ht h2
        · exact plain_3t p h A c w hE hk3 ht h2 h3
      · by_cases hk4 : p.k = 4 ∨ p.k = 5 ∨ p.k = 6
        · exact plain_c p h A c w p.k rfl hk4 h2
        · exact plain_x p h A c w (by omega)
theorem allF_bulk : ∀ (n : Nat) (l : List PT), bulkF n l ≤ 1000000000 → allF PlainOK n l
  | 0, _, _ => trivial
  | n + 1, l, h => fun p hp => by
    obtain ⟨i, hi⟩ := List.getElem?_of_mem hp
    have hb := bulkL_at (bulkF n) l i p hi
    have hL : bulkL (bulkF n) l ≤ 1000000000 := h
    refine ⟨plain_all p (by omega) (by omega) (by omega), fun c hc => ?_⟩
    obtain ⟨j, hj⟩ := List.getElem?_of_mem hc
    have hc2 := bulkC_at (bulkF n) p.cs j c hj
    exact allF_bulk n c.2 (by omega)
/-- Parts that may be have kinds and offsets. -/
theorem plain_kind {p : PT} {h : Bool} (hp : plainB p h = true) : kindOK p := by
  unfold plainB at hp
  split at hp
  · simp only [Bool.and_eq_true, decide_eq_true_eq] at hp
    exact ⟨⟨by omega, by omega⟩, by omega, by omega⟩
  · split at hp
    · simp only [Bool.and_eq_true, decide_eq_true_eq] at hp
      exact ⟨⟨by omega, by omega⟩, by omega, by omega⟩
    · split at hp
      · simp only [Bool.and_eq_true, decide_eq_true_eq] at hp
        exact ⟨⟨by omega, by omega⟩, by omega, by omega⟩
      · split at hp
        · simp only [Bool.and_eq_true, decide_eq_true_eq] at hp
          exact ⟨⟨by omega, by omega⟩, by omega, by omega⟩
        · cases hp
theorem caseR_all {R : List PT → Bool} {k : Int} : ∀ (cs : List CT) (ks : List ByteArray), caseR R k ks cs = true → ∀ c ∈ cs, R c.2 = true
  | [], _, _, c, hc => by cases hc
  | d :: cs, ks, h, c, hc => by
    rw [caseR, Bool.and_eq_true, Bool.and_eq_true, Bool.and_eq_true] at h
    rcases List.mem_cons.1 hc with rfl | hc
    · exact h.1.2
    · exact caseR_all cs _ h.2 c hc
theorem right_kinds : ∀ (n : Nat) (l : List PT) (h : Bool), rightF n l h = true → allO kindOK n l
  | 0, _, _, _ => trivial
  | n + 1, l, h, hr => by
    have key : ∀ (l : List PT) (q : Int), rightL (rightF n) h q l = true → ∀ p ∈ l, kindOK p ∧ ∀ c ∈ p.cs, allO kindOK n c.2 := fun l => by
      induction l with
      | nil => intro q _ p hp; cases hp
      | cons d l ih =>
        intro q hr p hp
        rw [rightL, Bool.and_eq_true, Bool.and_eq_true, Bool.and_eq_true, Bool.and_eq_true] at hr
        rcases List.mem_cons.1 hp with rfl | hp
        · exact ⟨plain_kind hr.1.1.1.1, fun c hc => right_kinds n c.2 _ (caseR_all p.cs _ hr.1.1.2 c hc)⟩
        · exact ih _ hr.2 p hp
    exact key l 0 hr
set_option maxRecDepth 100000 in
set_option maxHeartbeats 4000000 in
/-- form, at any parts. -/
theorem form_all (n : Nat) (l : List PT) (S : Nat → Prop) (v : Value) (B : Nat) (w : World) (hE : EnvM B w) (hh : Lies n S w v l) (hS : ∀ x, S x → x < w.heap.size) (hb : bulkF n l ≤ 900000000) :
    Calls Tryz.prog 25 #[v] w fun e w' => e = .returned (formV (formF n l)) ∧ Keep [] w w' := by
  have hq := allF_bulk n l (by omega)
  cases hr : rightF n l false with
  | true => exact form_any n l S v B w hE hh hS hq (allK_off n l (right_kinds n l false hr)) hb
  | false =>
    obtain ⟨A, m, cap, rfl⟩ := hh.form
    have HR : Hid (Calls Tryz.prog 51 #[.slice A m cap, .bool false] w fun e w' => e = .returned (.bool (rightF n l false)) ∧ Keep [] w w') := right_any n l false S _ B w hE hh hq (by omega)
    rw [hr] at HR
    have hf1 : formF n l = ([], 2) := by unfold formF; rw [if_pos hr]
    rw [hf1]
    clear hE hh hq hb hr hS hf1
    go_enter Tryz.func25, Tryz.ntmps25
    go_wp2_with (go_at_call 51; refine HR.out.mono ?_; rintro e w1 ⟨rfl, hk1⟩; have HK1 := Lib.hid hk1; clear hk1)
    exact bodyPost_ret (v := formV ([], 2)) (by simp [results, Tryz.results25, go_sem, formV]) rfl ⟨rfl, HK1.out⟩
set_option maxRecDepth 100000 in
/-- Print, at any parts. -/
theorem print_all (n : Nat) (l : List PT) (S : Nat → Prop) (v : Value) (B : Nat) (w : World) (hE : EnvM B w) (hh : Lies n S w v l) (hS : ∀ x, S x → x < w.heap.size) (hb : bulkF n l ≤ 900000000) :
    Calls Tryz.prog 11 #[v] w fun e w' => e = .returned (formV (formF n l)) ∧ Keep [] w w' := by
  have HF := Lib.hid (form_all n l S v B w hE hh hS hb)
  clear hE hh hS hb
  generalize formF n l = f at *
  obtain ⟨r, e⟩ := f
  unfold formV at HF ⊢
  go_enter Tryz.func11, Tryz.ntmps11
  go_wp2_with (go_at_call 25; refine HF.out.mono ?_; rintro e w1 ⟨rfl, hk1⟩; have HK1 := Lib.hid hk1; clear hk1)
  exact bodyPost_ret (v := .tuple #[.string ⟨r.toArray⟩, .int .i64 e]) (by simp [results, Tryz.results11, go_sem]) rfl ⟨rfl, HK1.out⟩
set_option maxRecDepth 100000 in
/-- Check, at any parts. -/
theorem mcheck_all (n : Nat) (l : List PT) (S : Nat → Prop) (v : Value) (B : Nat) (w : World) (hE : EnvM B w) (hh : Lies n S w v l) (hS : ∀ x, S x → x < w.heap.size) (hb : bulkF n l ≤ 900000000) :
    Calls Tryz.prog 13 #[v] w fun e w' => e = .returned (.int .i64 (formF n l).2) ∧ Keep [] w w' := by
  have HF := Lib.hid (form_all n l S v B w hE hh hS hb)
  clear hE hh hS hb
  generalize formF n l = f at *
  obtain ⟨r, e⟩ := f
  unfold formV at HF
  go_enter Tryz.func13, Tryz.ntmps13
  go_wp2_with (go_at_call 25; refine HF.out.mono ?_; rintro e w1 ⟨rfl, hk1⟩; have HK1 := Lib.hid hk1; clear hk1)
  go_ret
  exact ⟨rfl, HK1.out⟩
end Go.Proofs.YtjldgcpmdcoejaaGreatDoor

namespace Go.Proofs.YtjldgcpmdcoejaaGreatDoor
open Go.RowKit

set_option maxRecDepth 100000 in
set_option maxHeartbeats 4000000 in
/-- vernacularref19.Check. -/
theorem check19_all (n : Nat) (l : List PT) (S : Nat → Prop) (v : Value) (w : World) (hh : Lies n S w v l) (hb : bulkF n l ≤ 10000000) :
    Calls Tryz.prog 12 #[v] w fun e w' => e = .returned (.int .i64 (formF n l).2) ∧ Keep [] w w' := by
  obtain ⟨A, m, cap, rfl⟩ := hh.form
  have HR := Lib.hid (right19_any n l false S _ w hh (by omega))
  obtain ⟨f, hf⟩ : ∃ f, (formF n l).2 = f := ⟨_, rfl⟩
  have HF : Hid ((formF n l).2 = f) := hf
  rw [hf]
  cases hr : rightF n l false with
  | false =>
    rw [hr] at HR
    have hf1 : Hid (f = 2) := by unfold Hid; rw [← hf]; unfold formF; rw [if_pos hr]
    clear hh hb hf HF hr
    go_enter Tryz.func12, Tryz.ntmps12
    go_wp2_with (go_at_call 26; refine HR.out.mono ?_; rintro e w1 ⟨rfl, hk1⟩; have HK1 := Lib.hid hk1; clear hk1)
    go_ret
    exact ⟨by rw [hf1.out]; rfl, HK1.out⟩
  | true =>
    rw [hr] at HR
    have hf1 : Hid (f = if 1024 < sizeF n l ∨ 8 < depthF n l ∨ 4096 < (writeF n l false).length then 3 else 0) := by
      unfold Hid; rw [← hf]; unfold formF; rw [if_neg (by rw [hr]; decide)]; split <;> rfl
    have HL := Lib.hid hh
    have HSZ : ∀ W, Lies n S W (.slice A m cap) l → Hid (Calls Tryz.prog 27 #[.slice A m cap] W fun e w' => e = .returned (.int .i64 (sizeF n l)) ∧ W = w') := fun W hW => size19_any n l S _ W hW (by omega)
    have HDP : ∀ W, Lies n S W (.slice A m cap) l → Hid (Calls Tryz.prog 23 #[.slice A m cap] W fun e w' => e = .returned (.int .i64 (depthF n l)) ∧ W = w') := fun W hW => depth19_any n l S _ W hW (by omega)
    have hkd := right_kinds n l false hr
    have HFO : ∀ W, Lies n S W (.slice A m cap) l → Hid (Calls Tryz.prog 14 #[.slice A m cap, .bool false] W fun e w' => e = .returned (.string ⟨(writeF n l false).toArray⟩) ∧ Keep [] W w') := fun W hW => form19_any n l false S _ W hW hkd hb
    have hsz : (⟨(writeF n l false).toArray⟩ : ByteArray).size = (writeF n l false).length := toArr_size _
    have hwl := allO_len n l false (allK_off n l hkd)
    have hnw : (writeF n l false).length ≤ 90000000000 := by omega
    clear hh hb hf HF hr hkd hwl
    generalize sizeF n l = sz at *
    generalize depthF n l = dp at *
    generalize (⟨(writeF n l false).toArray⟩ : ByteArray) = out at *
    generalize (writeF n l false).length = ol at *
    by_cases h1 : 1024 < sz
    · have h1' : (1024 : Int) < sz := by omega
      go_enter Tryz.func12, Tryz.ntmps12
      go_wp2_with (first
        | (go_at_call 26; refine HR.out.mono ?_; rintro e w1 ⟨rfl, hk1⟩; have HK1 := Lib.hid hk1; have HL1 := Lib.hid (HL.out.keep hk1 (by simp)); clear hk1)
        | (go_at_call 27; refine (HSZ _ HL1.out).out.mono ?_; rintro e w2 ⟨rfl, rfl⟩))
      go_ret
      exact ⟨by rw [hf1.out, if_pos (.inl h1)]; rfl, HK1.out⟩
    · have h1' : ¬ (1024 : Int) < sz := by omega
      by_cases h2 : 8 < dp
      · have h2' : (8 : Int) < dp := by omega
        go_enter Tryz.func12, Tryz.ntmps12
        go_wp2_with (first
          | (go_at_call 26; refine HR.out.mono ?_; rintro e w1 ⟨rfl, hk1⟩; have HK1 := Lib.hid hk1; have HL1 := Lib.hid (HL.out.keep hk1 (by simp)); clear hk1)
          | (go_at_call 27; refine (HSZ _ HL1.out).out.mono ?_; rintro e w2 ⟨rfl, rfl⟩)
          | (go_at_call 23; refine (HDP _ HL1.out).out.mono ?_; rintro e w3 ⟨rfl, rfl⟩))
        go_ret
        exact ⟨by rw [hf1.out, if_pos (.inr (.inl h2))]; rfl, HK1.out⟩
      · have h2' : ¬ (8 : Int) < dp := by omega
        by_cases h3 : 4096 < ol
        · have h3' : (4096 : Int) < out.size := by omega
          go_enter Tryz.func12, Tryz.ntmps12
          go_wp2_with (first
            | (go_at_call 26; refine HR.out.mono ?_; rintro e w1 ⟨rfl, hk1⟩; have HK1 := Lib.hid hk1; have HL1 := Lib.hid (HL.out.keep hk1 (by simp)); clear hk1)
            | (go_at_call 27; refine (HSZ _ HL1.out).out.mono ?_; rintro e w2 ⟨rfl, rfl⟩)
            | (go_at_call 23; refine (HDP _ HL1.out).out.mono ?_; rintro e w3 ⟨rfl, rfl⟩)
            | (go_at_call 14; refine (HFO _ HL1.out).out.mono ?_; rintro e w4 ⟨rfl, hk4⟩; have HK4 := Lib.hid hk4; clear hk4))
          go_ret
          exact ⟨by rw [hf1.out, if_pos (.inr (.inr h3))]; rfl, HK1.out.nil HK4.out⟩
        · have h3' : ¬ (4096 : Int) < out.size := by omega
          go_enter Tryz.func12, Tryz.ntmps12
          go_wp2_with (first
            | (go_at_call 26; refine HR.out.mono ?_; rintro e w1 ⟨rfl, hk1⟩; have HK1 := Lib.hid hk1; have HL1 := Lib.hid (HL.out.keep hk1 (by simp)); clear hk1)
            | (go_at_call 27; refine (HSZ _ HL1.out).out.mono ?_; rintro e w2 ⟨rfl, rfl⟩)
            | (go_at_call 23; refine (HDP _ HL1.out).out.mono ?_; rintro e w3 ⟨rfl, rfl⟩)
            | (go_at_call 14; refine (HFO _ HL1.out).out.mono ?_; rintro e w4 ⟨rfl, hk4⟩; have HK4 := Lib.hid hk4; clear hk4))
          go_ret
          exact ⟨by rw [hf1.out, if_neg (by omega)]; rfl, HK1.out.nil HK4.out⟩
end Go.Proofs.YtjldgcpmdcoejaaGreatDoor

namespace Go.Proofs.YtjldgcpmdcoejaaGreatDoor
open Go.RowKit

set_option maxRecDepth 100000 in
set_option maxHeartbeats 4000000 in
/-- The law, walked. -/
theorem law_prints (n : Nat) (l : List PT) (S : Nat → Prop) (v : Value) (B : Nat) (w : World) (hE : EnvM B w) (hh : Lies n S w v l) (hS : ∀ x, S x → x < w.heap.size) (hb : bulkF n l ≤ 10000000) :
    Calls Tryz.prog 3 #[v] w fun e w' => e = .returned (.bool true) ∧ Keep [] w w' := by
  obtain ⟨A, m, cap, rfl⟩ := hh.form
  have HE := Lib.hid hE
  have HL := Lib.hid hh
  have HW := Lib.hid (wakes_any w hE)
  have HSM : ∀ W, Keep [] w W → Hid (Calls Tryz.prog 10 #[.slice A m cap, .int .i64 0] W fun e w' => BoolRet e ∧ Keep [] W w') := fun W hW => small_any n l 0 S _ W (hh.keep hW (by simp)) (by omega) (by omega) (by omega)
  have HPR : ∀ W, Keep [] w W → Hid (Calls Tryz.prog 11 #[.slice A m cap] W fun e w' => e = .returned (formV (formF n l)) ∧ Keep [] W w') := fun W hW => print_all n l S _ B W (hE.keep hW (by simp)) (hh.keep hW (by simp)) (fun x hx => Nat.lt_of_lt_of_le (hS x hx) hW.size) (by omega)
  have HC9 : ∀ W, Keep [] w W → Hid (Calls Tryz.prog 12 #[.slice A m cap] W fun e w' => e = .returned (.int .i64 (formF n l).2) ∧ Keep [] W w') := fun W hW => check19_all n l S _ W (hh.keep hW (by simp)) hb
  have HCM : ∀ W, Keep [] w W → Hid (Calls Tryz.prog 13 #[.slice A m cap] W fun e w' => e = .returned (.int .i64 (formF n l).2) ∧ Keep [] W w') := fun W hW => mcheck_all n l S _ B W (hE.keep hW (by simp)) (hh.keep hW (by simp)) (fun x hx => Nat.lt_of_lt_of_le (hS x hx) hW.size) (by omega)
  have HF9 : (formF n l).2 = 0 → ∀ W, Keep [] w W → Hid (Calls Tryz.prog 14 #[.slice A m cap, .bool false] W fun e w' => e = .returned (.string ⟨(formF n l).1.toArray⟩) ∧ Keep [] W w') := fun h0 W hW => by
    have hr : rightF n l false = true := by
      cases hr : rightF n l false
      · unfold formF at h0; rw [if_pos hr] at h0; cases h0
      · rfl
    have h1 : (formF n l).1 = writeF n l false := by
      unfold formF at h0 ⊢
      rw [if_neg (by rw [hr]; decide)] at h0 ⊢
      split at h0
      · cases h0
      · rename_i hn; rw [if_neg hn]
    rw [h1]
    exact form19_any n l false S _ W (hh.keep hW (by simp)) (right_kinds n l false hr) hb
  have h9 : (formF n l).2 ≠ 0 → (formF n l).1 = [] := fun h0 => by
    unfold formF at h0 ⊢
    split
    · rfl
    · rename_i h1
      rw [if_neg h1] at h0
      split
      · rfl
      · rename_i h2
        rw [if_neg h2] at h0
        exact absurd rfl h0
  unfold formV at HPR
  clear hE hh hS hb
  generalize formF n l = f at *
  obtain ⟨r, e⟩ := f
  simp only at HPR HC9 HCM HF9 h9
  by_cases he : e = 0
  · subst he
    have HF := HF9 rfl
    clear HF9 h9
    generalize (⟨r.toArray⟩ : ByteArray) = t at *
    go_enter Tryz.func3, Tryz.ntmps3
    go_wp2_with (first
        | (go_at_call 9; refine HW.out.mono ?_; rintro x w1 ⟨rfl, hk1⟩; have HK1 := Lib.hid hk1; clear hk1)
        | (go_at_call 10; refine (HSM _ HK1.out).out.mono ?_; rintro x w2 ⟨⟨q, rfl⟩, hk2⟩; have HK2 := Lib.hid (HK1.out.nil hk2); clear hk2; cases q)
        | (go_at_call 11; refine (HPR _ HK2.out).out.mono ?_; rintro x w3 ⟨rfl, hk3⟩; have HK3 := Lib.hid (HK2.out.nil hk3); clear hk3)
        | (go_at_call 12; refine (HC9 _ HK3.out).out.mono ?_; rintro x w4 ⟨rfl, hk4⟩; have HK4 := Lib.hid (HK3.out.nil hk4); clear hk4)
        | (go_at_call 14; refine (HF _ HK4.out).out.mono ?_; rintro x w5 ⟨rfl, hk5⟩; have HK5 := Lib.hid (HK4.out.nil hk5); clear hk5)
        | (go_at_call 13; first | (refine (HCM _ HK5.out).out.mono ?_; rintro x w6 ⟨rfl, hk6⟩; have HK6 := Lib.hid (HK5.out.nil hk6); clear hk6) | (refine (HCM _ HK4.out).out.mono ?_; rintro x w6 ⟨rfl, hk6⟩; have HK6 := Lib.hid (HK4.out.nil hk6); clear hk6)))
    all_goals
      go_ret
      first
        | exact ⟨rfl, HK2.out⟩
        | exact ⟨by simp, HK6.out⟩
  · have hr := h9 he
    subst hr
    have he1 : (e == 0) = false := by simpa using he
    have he2 : (e != 0) = true := by simpa using he
    clear HF9 h9 he
    go_enter Tryz.func3, Tryz.ntmps3
    go_wp2_with (first
        | (go_at_call 9; refine HW.out.mono ?_; rintro x w1 ⟨rfl, hk1⟩; have HK1 := Lib.hid hk1; clear hk1)
        | (go_at_call 10; refine (HSM _ HK1.out).out.mono ?_; rintro x w2 ⟨⟨q, rfl⟩, hk2⟩; have HK2 := Lib.hid (HK1.out.nil hk2); clear hk2; cases q)
        | (go_at_call 11; refine (HPR _ HK2.out).out.mono ?_; rintro x w3 ⟨rfl, hk3⟩; have HK3 := Lib.hid (HK2.out.nil hk3); clear hk3)
        | (go_at_call 12; refine (HC9 _ HK3.out).out.mono ?_; rintro x w4 ⟨rfl, hk4⟩; have HK4 := Lib.hid (HK3.out.nil hk4); clear hk4)
        | (go_at_call 13; first | (refine (HCM _ HK5.out).out.mono ?_; rintro x w6 ⟨rfl, hk6⟩; have HK6 := Lib.hid (HK5.out.nil hk6); clear hk6) | (refine (HCM _ HK4.out).out.mono ?_; rintro x w6 ⟨rfl, hk6⟩; have HK6 := Lib.hid (HK4.out.nil hk6); clear hk6)))
    all_goals
      go_ret
      first
        | exact ⟨rfl, HK2.out⟩
        | exact ⟨by simp, HK6.out⟩
end Go.Proofs.YtjldgcpmdcoejaaGreatDoor

namespace Go.Proofs.YtjldgcpmdcoejaaGreatDoor
open Go.ChangeShapes Go.WideShapes Go.ChangeAt Go.RowKit

/-- The blocks that there are. -/
abbrev InW (w : World) : Nat → Prop := fun x => x < w.heap.size
theorem cellsPart : Tryz.prog.cellsOf 47 = 7 := by kernel_rfl
theorem cellsCase : Tryz.prog.cellsOf 51 = 2 := by kernel_rfl
theorem cellsInt : Tryz.prog.cellsOf 3 = 1 := by kernel_rfl
theorem cellsStr : Tryz.prog.cellsOf 9 = 1 := by kernel_rfl
theorem cellsParts : Tryz.prog.cellsOf 22 = 1 := by kernel_rfl
theorem cellsCases : Tryz.prog.cellsOf 45 = 1 := by kernel_rfl
section
variable {H : Type} {enc : TypeId × Value → H} {w : World} {base : Nat} {spare : Nat → Bool} {held : Bool}
theorem up_lit (k : IntKind) (z : Int) : Rows.uptoBulk (DataW.lit (H := H) (.int k z)) = 1 := by simp [Rows.uptoBulk]
theorem up_str (t : ByteArray) : Rows.uptoBulk (DataW.lit (H := H) (.string t.data.toList)) = t.size + 1 := by
  simp [Rows.uptoBulk]
theorem up_append (a b : List (DataW H)) : Rows.uptoBulkAll (a ++ b) = Rows.uptoBulkAll a + Rows.uptoBulkAll b := by
  induction a with
  | nil => simp [Rows.uptoBulkAll]
  | cons x r ih => simp only [List.cons_append, Rows.uptoBulkAll, ih]; omega
theorem up_at : ∀ (l : List (DataW H)) (i : Nat) (d : DataW H), l[i]? = some d → Rows.uptoBulk d ≤ Rows.uptoBulkAll l
  | x :: r, 0, d, h => by simp at h; subst h; simp only [Rows.uptoBulkAll]; omega
  | x :: r, i + 1, d, h => by have := up_at r i d (by simpa using h); simp only [Rows.uptoBulkAll]; omega
theorem flatten_at {size : Nat} : ∀ (rows : List (List Value)) (_ : ∀ (i : Nat) r, rows[i]? = some r → r.length = size) (_ : 0 < size) (j : Nat) (u : Value), rows.flatten[j]? = some u →
    ∃ r, rows[j / size]? = some r ∧ r[j % size]? = some u
  | [], _, _, j, u, h => by simp at h
  | r :: rows, hr, hs, j, u, h => by
    have h0 := hr 0 r rfl
    rw [List.flatten_cons] at h
    by_cases hj : j < size
    · rw [List.getElem?_append_left (by omega)] at h
      exact ⟨r, by rw [Nat.div_eq_of_lt hj]; rfl, by rw [Nat.mod_eq_of_lt hj]; exact h⟩
    · rw [List.getElem?_append_right (by omega), h0] at h
      obtain ⟨r', h1, h2⟩ := flatten_at rows (fun i r h => hr (i + 1) r (by simpa using h)) hs (j - size) u h
      have e : j = (j - size) + size := by omega
      refine ⟨r', ?_, ?_⟩
      · rw [e, Nat.add_div_right _ hs]; simpa using h1
      · rw [e, Nat.add_mod_right]; exact h2
theorem open_rows {t e : TypeId} {fuel size : Nat} {c : Value} {x : DataW H × List MemPlace} (ht : Tryz.prog.underlying t = some (.slice e)) (he : Tryz.prog.cellsOf e = size) (hs : 0 < size)
    (h : DataW.trod enc Tryz.prog w base spare held fuel t [c] = some x) :
    ∃ (rows : List (List Value)) (ds : List (DataW H)) (m : Nat), ds.length = rows.length ∧ RdC (InW w) w c rows.length rows.flatten ∧ Rows.uptoBulkAll ds + 1 ≤ Rows.uptoBulk x.1 ∧
      ∀ (i : Nat) r d, rows[i]? = some r → ds[i]? = some d → r.length = size ∧ ∃ pl, DataW.trod enc Tryz.prog w base spare held m e r = some (d, pl) := by
  rcases Deep.open_slice ht h with ⟨hc, rfl⟩ | ⟨a, len, cap, m, n', D, Pl, hc, hb, hl, hm, hmm, rfl, hx⟩
  · simp at hc
    subst hc
    exact ⟨[], [], 0, rfl, RdC.nil _ w, by simp [Rows.uptoBulkAll, Rows.uptoBulk], fun i r d h => by simp at h⟩
  · simp at hc
    subst hc
    have hlm : len ≤ m := by rw [hmm]; split <;> omega
    rw [he] at hx
    have hx2 : ∀ i, i < len → ∃ r : List Value, r.length = size ∧ (∀ j, j < size → w.cell? (a.add (i * size + j)) = r[j]?) ∧ DataW.trod enc Tryz.prog w base spare held n' e r = some (D i, Pl i) := fun i hi => by
      obtain ⟨cs', h1, h2⟩ := hx i (by omega)
      obtain ⟨_, h4, h3⟩ := World.cells?_some h1
      exact ⟨cs', h4, fun j hj => by rw [← add_of_add]; exact h3 j hj, h2⟩
    have hI : Inhabited (List Value) := ⟨[]⟩
    obtain ⟨f, hf⟩ := Deep.choose_lt hx2
    have hrow : ∀ (i : Nat) r, ((List.range len).map f)[i]? = some r → i < len ∧ r = f i := fun i r h => by
      have hi : i < len := by have := (List.getElem?_eq_some_iff.1 h).1; simpa using this
      rw [List.getElem?_map, List.getElem?_range hi] at h
      exact ⟨hi, by simpa using h.symm⟩
    refine ⟨(List.range len).map f, (List.range len).map D, n', by simp, ⟨some a, cap, by simp, by simpa using hl, hm, fun hne => ?_⟩, ?_, fun i r d h1 h2 => ?_⟩
    · have hlen : 0 < len := by simpa using hne
      have h00 := (hf 0 hlen).2.1 0 hs
      obtain ⟨r0, hr0⟩ : ∃ u, (f 0)[0]? = some u := ⟨_, List.getElem?_eq_getElem (by rw [(hf 0 hlen).1]; exact hs)⟩
      have hsp : a.spot = none ∧ a.block < w.heap.size := by
        rw [show a.add (0 * size + 0) = a by simp [Addr.add], hr0] at h00
        have h01 := h00
        unfold World.cell? at h01
        split at h01
        · rename_i heq
          refine ⟨?_, (Array.getElem?_eq_some_iff.1 heq).1⟩
          cases hs : a.spot with
          | none => rfl
          | some _ => rw [hs] at h01; simp at h01
        · cases h01
      obtain ⟨b, o, sp⟩ := a
      obtain ⟨hs1, hs2⟩ := hsp
      simp only at hs1 hs2
      subst hs1
      refine ⟨b, o, rfl, hs2, hs2, fun j u hu => ?_⟩
      obtain ⟨r, h1, h2⟩ := flatten_at ((List.range len).map f) (size := size) (fun i r h => by obtain ⟨hi, rfl⟩ := hrow i r h; exact (hf i hi).1) hs j u hu
      obtain ⟨hi, rfl⟩ := hrow _ _ h1
      have := (hf (j / size) hi).2.1 (j % size) (Nat.mod_lt _ hs)
      rw [h2, show j / size * size + j % size = j by rw [Nat.mul_comm]; exact Nat.div_add_mod ..] at this
      rw [← this]
      unfold Addr.add
      split <;> simp_all
    · simp only [Rows.uptoBulk]; omega
    · obtain ⟨hi, rfl⟩ := hrow i r h1
      rw [List.getElem?_map, List.getElem?_range hi] at h2
      obtain rfl : D i = d := by simpa using h2
      exact ⟨(hf i hi).1, _, (hf i hi).2.2⟩
set_option maxRecDepth 100000 in
theorem open_part {n : Nat} {cs : List Value} {d : DataW H} {pl : List MemPlace} (h : DataW.trod enc Tryz.prog w base spare held n 47 cs = some (d, pl)) :
    ∃ (k : Int) (tx nm ty st : ByteArray) (off : Int) (cv : Value) (y : DataW H × List MemPlace) (m : Nat), cs = [.int .i64 k, .string tx, .string nm, .string ty, .string st, .int .i64 off, cv] ∧
      DataW.trod enc Tryz.prog w base spare held m 45 [cv] = some y ∧ 1 + tx.size + nm.size + ty.size + st.size + Rows.uptoBulk y.1 ≤ Rows.uptoBulk d := by
  obtain ⟨xs, m, rfl, hx, hl, hxl, hall⟩ := DataW.trod_struct Tryz.underlying47 h
  simp only [Prod.mk.injEq] at hx
  obtain ⟨rfl, _⟩ := hx
  rw [cellsPart] at hl
  match cs, hl with
  | [c0, c1, c2, c3, c4, c5, c6], _ =>
    have h0 : DataW.trod enc Tryz.prog w base spare held m 3 (([c0, c1, c2, c3, c4, c5, c6].drop 0).take (Tryz.prog.cellsOf 3)) = xs[0]? := hall 0 _ rfl
    have h1 : DataW.trod enc Tryz.prog w base spare held m 9 (([c0, c1, c2, c3, c4, c5, c6].drop 1).take (Tryz.prog.cellsOf 9)) = xs[1]? := hall 1 _ rfl
    have h2 : DataW.trod enc Tryz.prog w base spare held m 9 (([c0, c1, c2, c3, c4, c5, c6].drop 2).take (Tryz.prog.cellsOf 9)) = xs[2]? := hall 2 _ rfl
    have h3 : DataW.trod enc Tryz.prog w base spare held m 9 (([c0, c1, c2, c3, c4, c5, c6].drop 3).take (Tryz.prog.cellsOf 9)) = xs[3]? := hall 3 _ rfl
    have h4 : DataW.trod enc Tryz.prog w base spare held m 9 (([c0, c1, c2, c3, c4, c5, c6].drop 4).take (Tryz.prog.cellsOf 9)) = xs[4]? := hall 4 _ rfl
    have h5 : DataW.trod enc Tryz.prog w base spare held m 3 (([c0, c1, c2, c3, c4, c5, c6].drop 5).take (Tryz.prog.cellsOf 3)) = xs[5]? := hall 5 _ rfl
    have h6 : DataW.trod enc Tryz.prog w base spare held m 45 (([c0, c1, c2, c3, c4, c5, c6].drop 6).take (Tryz.prog.cellsOf 45)) = xs[6]? := hall 6 _ rfl
    rw [cellsInt] at h0 h5
    rw [cellsStr] at h1 h2 h3 h4
    rw [cellsCases] at h6
    match xs, hxl with
    | [y0, y1, y2, y3, y4, y5, y6], _ =>
      obtain ⟨k, e0, rfl, _⟩ := DataW.trod_int Tryz.underlying3 h0
      obtain ⟨t1, e1, rfl, _⟩ := DataW.trod_string Tryz.underlying9 h1
      obtain ⟨t2, e2, rfl, _⟩ := DataW.trod_string Tryz.underlying9 h2
      obtain ⟨t3, e3, rfl, _⟩ := DataW.trod_string Tryz.underlying9 h3
      obtain ⟨t4, e4, rfl, _⟩ := DataW.trod_string Tryz.underlying9 h4
      obtain ⟨z, e5, rfl, _⟩ := DataW.trod_int Tryz.underlying3 h5
      simp at e0 e1 e2 e3 e4 e5
      subst e0 e1 e2 e3 e4 e5
      refine ⟨k, t1, t2, t3, t4, z, c6, y6, m, rfl, by simpa using h6, ?_⟩
      simp only [List.map_cons, List.map_nil, Rows.uptoBulk.eq_def (.agg _), Rows.uptoBulkAll, up_str, up_lit]
      omega
set_option maxRecDepth 100000 in
theorem open_case {n : Nat} {cs : List Value} {d : DataW H} {pl : List MemPlace} (h : DataW.trod enc Tryz.prog w base spare held n 51 cs = some (d, pl)) :
    ∃ (key : ByteArray) (pv : Value) (y : DataW H × List MemPlace) (m : Nat), cs = [.string key, pv] ∧
      DataW.trod enc Tryz.prog w base spare held m 22 [pv] = some y ∧ 1 + key.size + Rows.uptoBulk y.1 ≤ Rows.uptoBulk d := by
  obtain ⟨xs, m, rfl, hx, hl, hxl, hall⟩ := DataW.trod_struct Tryz.underlying51 h
  simp only [Prod.mk.injEq] at hx
  obtain ⟨rfl, _⟩ := hx
  rw [cellsCase] at hl
  match cs, hl with
  | [c0, c1], _ =>
    have h0 : DataW.trod enc Tryz.prog w base spare held m 9 (([c0, c1].drop 0).take (Tryz.prog.cellsOf 9)) = xs[0]? := hall 0 _ rfl
    have h1 : DataW.trod enc Tryz.prog w base spare held m 22 (([c0, c1].drop 1).take (Tryz.prog.cellsOf 22)) = xs[1]? := hall 1 _ rfl
    rw [cellsStr] at h0
    rw [cellsParts] at h1
    match xs, hxl with
    | [y0, y1], _ =>
      obtain ⟨t0, e0, rfl, _⟩ := DataW.trod_string Tryz.underlying9 h0
      simp at e0
      subst e0
      refine ⟨t0, c1, y1, m, rfl, by simpa using h1, ?_⟩
      simp only [List.map_cons, List.map_nil, Rows.uptoBulk.eq_def (.agg _), Rows.uptoBulkAll, up_str]
      omega
theorem build_parts {N : Nat} {S : Nat → Prop} : ∀ (rows : List (List Value)) (ds : List (DataW H)), ds.length = rows.length →
    (∀ (i : Nat) r d, rows[i]? = some r → ds[i]? = some d → ∃ (p : PT) (cv : Value), r = p.cells cv ∧ LiesC N S w cv p.cs ∧ ∀ m, 1 + p.tx.size + p.nm.size + p.ty.size + p.st.size + bulkC (bulkF m) p.cs ≤ Rows.uptoBulk d) →
    ∃ (l : List PT) (vs : List Value), l.length = rows.length ∧ vs.length = l.length ∧ rows.flatten = partC l vs ∧ (∀ (i : Nat) (p : PT) (cv : Value), l[i]? = some p → vs[i]? = some cv → LiesC N S w cv p.cs) ∧ ∀ m, bulkL (bulkF m) l ≤ Rows.uptoBulkAll ds
  | [], [], _, _ => ⟨[], [], rfl, rfl, rfl, fun i p cv h => by simp at h, fun m => Nat.zero_le _⟩
  | r :: rows, d :: ds, hl, hq => by
    obtain ⟨p, cv, rfl, h1, h2⟩ := hq 0 r d rfl rfl
    obtain ⟨l, vs, g1, g2, g3, g4, g5⟩ := build_parts rows ds (by simpa using hl) fun i r d h h' => hq (i + 1) r d (by simpa using h) (by simpa using h')
    refine ⟨p :: l, cv :: vs, by simp [g1], by simp [g2], by rw [List.flatten_cons, g3]; rfl, fun i q u hi hu => ?_, fun m => ?_⟩
    · cases i with
      | zero => simp at hi hu; subst hi; subst hu; exact h1
      | succ i => exact g4 i q u (by simpa using hi) (by simpa using hu)
    · have := h2 m; have := g5 m
      simp only [bulkL, Rows.uptoBulkAll]; omega
theorem build_cases {N : Nat} {S : Nat → Prop} : ∀ (rows : List (List Value)) (ds : List (DataW H)), ds.length = rows.length →
    (∀ (i : Nat) r d, rows[i]? = some r → ds[i]? = some d → ∃ (c : CT) (pv : Value), r = [.string c.1, pv] ∧ Lies N S w pv c.2 ∧ ∀ m, 1 + c.1.size + bulkF m c.2 ≤ Rows.uptoBulk d) →
    ∃ (l : List CT) (us : List Value), l.length = rows.length ∧ us.length = l.length ∧ rows.flatten = caseC l us ∧ (∀ (i : Nat) (c : CT) (pv : Value), l[i]? = some c → us[i]? = some pv → Lies N S w pv c.2) ∧ ∀ m, bulkC (bulkF m) l ≤ Rows.uptoBulkAll ds
  | [], [], _, _ => ⟨[], [], rfl, rfl, rfl, fun i p cv h => by simp at h, fun m => Nat.zero_le _⟩
  | r :: rows, d :: ds, hl, hq => by
    obtain ⟨c, pv, rfl, h1, h2⟩ := hq 0 r d rfl rfl
    obtain ⟨l, us, g1, g2, g3, g4, g5⟩ := build_cases rows ds (by simpa using hl) fun i r d h h' => hq (i + 1) r d (by simpa using h) (by simpa using h')
    refine ⟨c :: l, pv :: us, by simp [g1], by simp [g2], by rw [List.flatten_cons, g3]; rfl, fun i q u hi hu => ?_, fun m => ?_⟩
    · cases i with
      | zero => simp at hi hu; subst hi; subst hu; exact h1
      | succ i => exact g4 i q u (by simpa using hi) (by simpa using hu)
    · have := h2 m; have := g5 m
      simp only [bulkC, Rows.uptoBulkAll]; omega
/-- Parts, opened: how they lie, and how much there is in them. -/
theorem open_parts : ∀ (N fuel : Nat) (c : Value) (x : DataW H × List MemPlace), DataW.trod enc Tryz.prog w base spare held fuel 22 [c] = some x → Rows.uptoBulk x.1 ≤ N →
    ∃ l, Lies (N + 1) (InW w) w c l ∧ ∀ m, bulkF m l ≤ Rows.uptoBulk x.1
  | N, fuel, c, x, h, hN => by
    obtain ⟨rows, ds, m, hlen, hr, hb, hall⟩ := open_rows Tryz.underlying22 cellsPart (by omega) h
    cases N with
    | zero => omega
    | succ N =>
      obtain ⟨l, vs, g1, g2, g3, g4, g5⟩ := build_parts (w := w) (N := N + 1) (S := InW w) rows ds hlen fun i r d h1 h2 => by
        obtain ⟨_, pl, h3⟩ := hall i r d h1 h2
        obtain ⟨k, tx, nm, ty, st, off, cv, y, m', rfl, h4, h5⟩ := open_part h3
        have hd := up_at ds i d h2
        obtain ⟨rows', ds', m'', hlen', hr', hb', hall'⟩ := open_rows Tryz.underlying45 cellsCase (by omega) h4
        obtain ⟨cs, us, f1, f2, f3, f4, f5⟩ := build_cases (w := w) (N := N + 1) (S := InW w) rows' ds' hlen' fun i' r' d' h1' h2' => by
          obtain ⟨_, pl', h3'⟩ := hall' i' r' d' h1' h2'
          obtain ⟨key, pv, y', m3, rfl, h4', h5'⟩ := open_case h3'
          have hd' := up_at ds' i' d' h2'
          obtain ⟨l', hl', hl2⟩ := open_parts N m3 pv y' h4' (by omega)
          exact ⟨(key, l'), pv, rfl, hl', fun m => by have := hl2 m; simp only; omega⟩
        refine ⟨⟨k, tx, nm, ty, st, off, cs⟩, cv, rfl, ⟨us, f2, ?_, f4⟩, fun m => by have := f5 m; simp only; omega⟩
        show RdC (InW w) w cv cs.length (caseC cs us)
        rw [f1, ← f3]
        exact hr'
      refine ⟨l, ⟨vs, g2, ?_, g4⟩, fun m => ?_⟩
      · rw [g1, ← g3]; exact hr
      · cases m with
        | zero => exact Nat.zero_le _
        | succ m => have := g5 m; simp only [bulkF]; omega
end
end Go.Proofs.YtjldgcpmdcoejaaGreatDoor

namespace Go.Proofs.YtjldgcpmdcoejaaGreatDoor.mprints
open Go.ChangeShapes Go.WideShapes Go.ChangeAt Go.RowKit

set_option maxRecDepth 100000 in
theorem contract (H : Type) (enc : TypeId × Value → H) (W : World) (base : Nat) (args : Array Value) (ds gs : List (DataW H)) (before : List MemPlace)
    (hval : ∀ (j : Nat) t v, Tryz.f3.params[j]? = some t → args[j]? = some v → Value.okWide Tryz.prog W .any base t v)
    (hW : DataW.Whole enc Tryz.prog Tryz.f3.params.toList Rows.messagePrintsSpec.vars false W args.toList ds gs before)
    (hL : laidMetH Tryz.prog Rows.messagePrintsUptoRow.laid W) (hsh : W.ShapedOpen Tryz.prog) (hk : Rows.uptoSmall H (ds ++ gs) = true) :
    Calls Tryz.prog 3 args W fun e W' => ∃ v, e = .returned v ∧ Rows.messagePrintsSpec.post enc Tryz.prog Tryz.f3 false true false false W args v W' := by
  have hW' := hW
  obtain ⟨p, q, hA0, hV, rfl, hfz, hnd⟩ := hW
  have hA : DataW.TrodAll enc Tryz.prog W 0 (fun _ => true) true Tryz.f3.params.toList args.toList ds p := hA0
  have hA1 := hA
  rw [Tryz.params3] at hA hval
  obtain ⟨v0, vs0, d0, ds0, p0, q0, hargs, rfl, rfl, h0, r0⟩ := trodAll_cons hA
  obtain ⟨rfl, rfl, rfl⟩ := trodAll_nil r0
  obtain rfl : args = #[v0] := by cases args; simp_all
  obtain ⟨rfl, rfl⟩ := trodVars_none hV
  have hlt := fun x hx => hW'.lt x hx
  have g0 := h0
  have hbk : Rows.uptoBulk d0 ≤ 1048576 := by
    have h1 : Rows.uptoBulkAll ([d0] ++ []) ≤ 1048576 := by simpa [Rows.uptoSmall] using hk
    have h2 := up_at ([d0] ++ []) 0 d0 rfl
    omega
  obtain ⟨A, m, k, rfl⟩ := okWide_slice Tryz.underlying22 (hval 0 22 v0 rfl rfl)
  obtain ⟨fuel, hf⟩ := h0
  have hf2 : DataW.trod enc Tryz.prog W 0 (fun _ => true) true fuel 22 [.slice A m k] = some (d0, p0) := hf
  obtain ⟨l, hl, hb⟩ := open_parts 1048576 fuel (.slice A m k) _ hf2 hbk
  refine (law_prints _ l (InW W) (.slice A m k) _ W (env_m hL hsh) hl (fun x hx => hx) (Nat.le_trans (hb _) (Nat.le_trans hbk (by omega)))).mono fun e W' ⟨he, hk⟩ => ?_
  subst he
  have hb := hk.toBelow
  have t0 := hb.trod laidOut (by kernel_rfl) (of_decide_eq_true (by kernel_rfl)) g0 (fun x hx => hlt x (by simp [hx]))
  exact ⟨_, rfl, _, _, _, [], _, [], hW', trodAll_cons_mk (shut_bool Tryz.underlying4 _) trodAll_mk0, trodAll_cons_mk t0 trodAll_mk0, rfl, hb.frame _, fun h => by cases h⟩

theorem reads (os : Os) {H : Type} (enc : TypeId × Value → H) : ∃ places, DataW.whole enc Tryz.prog ((laidWorld os).forCall (fun _ _ => 0) ⟨#[], #[.slice none 0 0], []⟩).memory Tryz.f3.params.toList Rows.messagePrintsSpec.vars false #[.slice none 0 0].toList 8 = some ([.nil], [], places) :=
  ⟨[], by kernel_rfl⟩

set_option maxRecDepth 100000 in
theorem lifted (os : Os) (started : os.Started) (H : Type) (enc : TypeId × Value → H) (F : Stop.Interp) :
    ReturnsInHanded {} Tryz.checked os 3 .any ((Rows.OpenSpec.upto Rows.messagePrintsSpec).preRow enc Tryz.prog Tryz.f3 Rows.messagePrintsUptoRow.domain false Rows.messagePrintsUptoRow.laid) (((Rows.OpenSpec.upto Rows.messagePrintsSpec).at F).post enc Tryz.prog Tryz.f3 false true false false) := by
  obtain ⟨places, hx⟩ := reads os enc
  refine returnsInHanded_of_row (C := Tryz.checked) (s := Rows.OpenSpec.upto Rows.messagePrintsSpec) own started (by kernel_rfl) Tryz.func3
    (witness_row_atRef (enc := enc) (C := Tryz.checked) false (laidWorld os) #[.slice none 0 0] rfl (by kernel_rfl) (by kernel_rfl) (by kernel_rfl)
      (OpenSpec.preRow_of_cond 8 hx (by kernel_rfl) (fun k hk => by cases hk; kernel_rfl) (by kernel_rfl) (laid_met os _))) ?_
  intro W base args ds gs before hval hW _ hcond _ hL hsh _
  exact contract H enc W base args ds gs before hval hW hL hsh (hcond _ rfl)

theorem said : Rows.MessagePrintsUptoSaid :=
  OpenClaim.holds_of_cond 3 Tryz.f3 rfl rfl rfl rfl rfl rfl rfl ⟨rfl, rfl, rfl, rfl, rfl⟩ rfl rfl rfl rfl rfl (by kernel_rfl) Tryz.func3 (by kernel_rfl)
    (of_decide_eq_true (by kernel_rfl)) (by unfold Func.isWrapper; first | (rw [if_pos (by decide +kernel)]; kernel_rfl) | (rw [if_neg (by decide +kernel)]; exact ⟨rfl, rfl⟩))
    (fun os started H enc _ F => by rw [OpenClaim.pre_eq_preRow]; exact lifted os started H enc F)
theorem plain (f : FuncId) (fn : Func) (hf : Tryz.pinned.checked.prog.funcNamed "vernacular/vernacularlaw19.MessagePrints" = some f) (hfn : Tryz.pinned.checked.prog.funcs[f]? = some fn) :
    true = Tryz.pinned.checked.prog.looks [] ∧ ∀ (j : Nat) t, fn.params[j]? = some t → Tryz.pinned.checked.prog.wantsStandIn t = false := by
  obtain rfl : f = 3 := Option.some.inj ((show Tryz.prog.funcNamed "vernacular/vernacularlaw19.MessagePrints" = some 3 by kernel_rfl).symm.trans hf) |>.symm
  obtain rfl : fn = Tryz.f3 := (Option.some.inj (Tryz.func3.symm.trans hfn)).symm
  refine ⟨by kernel_rfl, fun j t ht => ?_⟩
  rw [Tryz.params3] at ht
  have hm := Array.mem_of_getElem? ht
  obtain rfl : t = 22 := by simpa using hm
  exact (show Tryz.prog.wantsStandIn 22 = false by kernel_rfl)
theorem card : Rows.MessagePrintsUptoCardSaid :=
  Claim7.holds_tied_plain_at .later [] _ _ _ _ said (fun _ h => by cases h) (by kernel_rfl) (fun _ h => by cases h) messagePrintsUpto_row_tie rfl ⟨rfl, rfl⟩ (by kernel_rfl) rfl plain (by kernel_rfl)
end Go.Proofs.YtjldgcpmdcoejaaGreatDoor.mprints
