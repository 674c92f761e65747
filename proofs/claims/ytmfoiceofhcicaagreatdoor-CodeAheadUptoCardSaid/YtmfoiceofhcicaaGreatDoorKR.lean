/- Walks: octet.Read, Left, At, Err. -/
import Derived.Test.YtmfoiceofhcicaaGreatDoorKQ
namespace Go.Proofs.YtmfoiceofhcicaaGreatDoor
open Go.RowKit Go.IntWalk

/-- A reader of bytes: what it reads, where it stands, its fault. -/
structure Rdr (w : World) (g : Nat) (v : Value) (l : List UInt8) (k f : Nat) : Prop where
  blk : Blk w g 164 #[v, .int .i64 k, .int .i64 f]
  rd : RdC (fun x => x ≠ g) w v l.length (l.map cellU)
  le : k ≤ l.length
  few : l.length ≤ 100000000000
set_option maxRecDepth 100000 in
set_option maxHeartbeats 400000 in
/-- octet.Read. -/
theorem oread_any (w : World) (v : Value) (l : List UInt8) (h : RdU w v l) (hl : l.length ≤ 100000000000) :
    Calls Tryz.prog 72 #[v] w fun e w' => ∃ g v', e = .returned (.pointer (some ⟨g, 0, none⟩)) ∧ w.heap.size ≤ g ∧ Rdr w' g v' l 0 0 ∧ OwnU w' w.heap.size v' l ∧ Keep [] w w' := by
  have HC := Lib.hid (cloneU_any w v l h hl)
  clear h
  go_enter Tryz.func72, Tryz.ntmps72
  go_wp2_with (go_at_call 30; refine HC.out.mono ?_; rintro e w1 ⟨v1, rfl, ho1, hk1⟩; obtain ⟨A1, c1, rfl⟩ := ho1.form; have HO1 := Lib.hid ho1; have HK1 := Lib.hid hk1; clear ho1 hk1)
  go_ret
  have hlt : ∀ x ∈ (Value.slice A1 l.length c1).ownBlock.toList, w.heap.size ≤ x ∧ x < w1.heap.size := HO1.out.lt
  refine ⟨_, _, rfl, HK1.out.size, ⟨Blk.new w1 164 #[.slice A1 l.length c1, .int .i64 0, .int .i64 0], RdC.of_own (by simp) (HO1.out.alloc _) (fun x hx => ?_), Nat.zero_le _, hl⟩, HO1.out.alloc _, HK1.out.alloc _⟩
  have := (hlt x hx).2
  omega
set_option maxRecDepth 100000 in
set_option maxHeartbeats 400000 in
/-- Err. -/
theorem oerr_any (w : World) (g : Nat) (v : Value) (l : List UInt8) (k f : Nat) (h : Rdr w g v l k f) :
    Calls Tryz.prog 74 #[.pointer (some ⟨g, 0, none⟩)] w fun e w' => e = .returned (.int .i64 f) ∧ w = w' := by
  have q2 : w.cell? ⟨g, 2, none⟩ = some (.int .i64 f) := h.blk.cell_eq rfl
  clear h
  go_enter Tryz.func74, Tryz.ntmps74
  go_wp2
  go_ret
  exact ⟨rfl, rfl⟩
set_option maxRecDepth 100000 in
set_option maxHeartbeats 400000 in
/-- At. -/
theorem oat_any (w : World) (g : Nat) (v : Value) (l : List UInt8) (k f : Nat) (h : Rdr w g v l k f) :
    Calls Tryz.prog 78 #[.pointer (some ⟨g, 0, none⟩)] w fun e w' => e = .returned (.int .i64 k) ∧ w = w' := by
  have q2 : w.cell? ⟨g, 1, none⟩ = some (.int .i64 k) := h.blk.cell_eq rfl
  clear h
  go_enter Tryz.func78, Tryz.ntmps78
  go_wp2
  go_ret
  exact ⟨rfl, rfl⟩
set_option maxRecDepth 100000 in
/-- A part of bytes that are read. -/
theorem slice_partU {S : Nat → Prop} {w : World} {v : Value} {l : List UInt8} (h : RdC S w v l.length (l.map cellU)) (k n : Nat) (hkn : k + n ≤ l.length) :
    ∃ v', (∀ W, (Instr.slice 25 v (some (.int .i64 (k : Int))) (some (.int .i64 ((k : Int) + (n : Int)))) none).run Tryz.prog W = .ok v' W) ∧ RdC S w v' ((l.drop k).take n).length (((l.drop k).take n).map cellU) := by
  obtain ⟨A, cap, rfl, h1, h2, h3⟩ := h
  have hlen : ((l.drop k).take n).length = n := by simp; omega
  by_cases hn : n = 0
  · subst hn
    refine ⟨Go.sliced A k k cap 1, fun W => ?_, (if cap = k then A else A.map (·.add (k * 1))), cap - k, ?_, by simp, by omega, fun hx => ?_⟩
    · have ht' : Tryz.prog.underlying 25 = some (.slice (Tryz.prog.elem 25)) := by simp [Program.elem, Tryz.underlying25]
      have hz : ∀ W, (Go.sizeOf (Tryz.prog.elem 25)).run Tryz.prog W = .ok 1 W := fun W => rfl
      rw [show ((k : Int) + ((0 : Nat) : Int)) = (k : Int) by omega, run_slice_lh W _ _ _ _ ht' .i64 .i64 _ _ (by omega) (by omega) (by omega), hz]
      rfl
    · simp [Go.sliced]
    · simp at hx
  · obtain ⟨b, o, rfl, hS, hlt, hc⟩ := h3 (by omega)
    refine ⟨.slice (some ⟨b, o + k, none⟩) n (cap - k), fun W => ?_, some ⟨b, o + k, none⟩, cap - k, by rw [hlen], by rw [hlen]; omega, by omega, fun _ => ⟨b, o + k, rfl, hS, hlt, fun j u hu => ?_⟩⟩
    · have := Lib.run_slice_window (P := Tryz.prog) W 25 5 Tryz.underlying25 (fun W => rfl) b o l.length cap k (k + n) (by omega) (by omega)
      rw [show k + n - k = n by omega] at this
      rw [← Int.natCast_add]
      exact this
    · rw [List.getElem?_map] at hu
      have : (l.map cellU)[k + j]? = some u := by
        rw [List.getElem?_map]
        rw [← hu]
        congr 1
        have hj : j < n := by
          cases hq : ((l.drop k).take n)[j]? with
          | none => rw [hq] at hu; simp at hu
          | some y => have := (List.getElem?_eq_some_iff.1 hq).1; omega
        rw [List.getElem?_take_of_lt hj, List.getElem?_drop]
      rw [Nat.add_assoc]
      exact hc _ _ this
set_option maxRecDepth 100000 in
set_option maxHeartbeats 800000 in
/-- Left. -/
theorem oleft_any (w : World) (g : Nat) (v : Value) (l : List UInt8) (k f : Nat) (h : Rdr w g v l k f) :
    Calls Tryz.prog 77 #[.pointer (some ⟨g, 0, none⟩)] w fun e w' => e = .returned (.int .i64 ((l.length - k : Nat) : Int)) ∧ Keep [] w w' := by
  obtain ⟨A, cap, rfl⟩ : ∃ A cap, v = .slice A l.length cap := by
    obtain ⟨A, cap, h, _⟩ := h.rd
    exact ⟨A, cap, h⟩
  have q0 : w.cell? ⟨g, 0, none⟩ = some (.slice A l.length cap) := h.blk.cell_eq rfl
  have q1 : w.cell? ⟨g, 1, none⟩ = some (.int .i64 k) := h.blk.cell_eq rfl
  have HL := Lib.hid h.le
  have HF := Lib.hid h.few
  clear h
  go_enter Tryz.func77, Tryz.ntmps77
  go_wp2
  go_quiet (fail)
  go_wp2
  go_ret
  have := HL.out
  have := HF.out
  have hw : wrap64 ((l.length : Int) - (k : Int)) = ((l.length - k : Nat) : Int) := by
    unfold wrap64
    omega
  rw [hw]
  exact ⟨rfl, (Keep.refl [] w).drewN nq⟩
theorem Rdr.keep {w w' : World} {g k f : Nat} {v : Value} {l : List UInt8} (h : Rdr w g v l k f) (hk : Keep [] w w') : Rdr w' g v l k f :=
  ⟨h.blk.keep hk (by simp), h.rd.keep hk (by simp), h.le, h.few⟩
/-- What is taken, and how the reader then stands. -/
def tkB (l : List UInt8) (k f n : Nat) : List UInt8 := if f = 0 ∧ k + n ≤ l.length then (l.drop k).take n else []
def tkK (l : List UInt8) (k f n : Nat) : Nat := if f = 0 ∧ k + n ≤ l.length then k + n else k
def tkF (l : List UInt8) (k f n : Nat) : Nat := if f = 0 ∧ ¬ k + n ≤ l.length then 110 else f
set_option maxRecDepth 100000 in
set_option maxHeartbeats 1600000 in
/-- take. -/
theorem otake_any (w : World) (g : Nat) (v : Value) (l : List UInt8) (k f n : Nat) (hn : n ≤ 100000000000) (hf : f ≤ 1000) (h : Rdr w g v l k f) :
    Calls Tryz.prog 96 #[.pointer (some ⟨g, 0, none⟩), .int .i64 n] w fun e w' => ∃ v', e = .returned v' ∧ RdU w' v' (tkB l k f n) ∧ Rdr w' g v l (tkK l k f n) (tkF l k f n) ∧ Keep [g] w w' := by
  obtain ⟨A, cap, rfl⟩ : ∃ A cap, v = .slice A l.length cap := by
    obtain ⟨A, cap, h, _⟩ := h.rd
    exact ⟨A, cap, h⟩
  have q0 : w.cell? ⟨g, 0, none⟩ = some (.slice A l.length cap) := h.blk.cell_eq rfl
  have q1 : w.cell? ⟨g, 1, none⟩ = some (.int .i64 k) := h.blk.cell_eq rfl
  have q2 : w.cell? ⟨g, 2, none⟩ = some (.int .i64 f) := h.blk.cell_eq rfl
  have z1 : w.frozen? ⟨g, 1, none⟩ = false := h.blk.frozen _
  have z2 : w.frozen? ⟨g, 2, none⟩ = false := h.blk.frozen _
  have HR := Lib.hid h
  clear h
  by_cases hf0 : f = 0
  · subst hf0
    go_enter Tryz.func96, Tryz.ntmps96
    go_wp2
    go_quiet (fail)
    go_wp2
    · go_ret
      refine ⟨_, rfl, ?_⟩
      have hle := HR.out.le
      have hfw := HR.out.few
      have hgt : ¬ k + n ≤ l.length := by
        unfold wrap64 at *
        omega
      simp only [tkB, tkK, tkF, hgt, and_false, if_false, not_false_iff, and_true, if_true]
      have hk : Keep [g] w ((w.drewN nq).setCell ⟨g, 2, none⟩ (.int .i64 110)) := Keep.setCell ((Keep.refl [g] w).drewN nq) (.inl (by simp)) _
      exact ⟨RdC.nil _ _, ⟨(HR.out.blk.drewN nq).set_ 2 _, HR.out.rd.keep hk (by simp), hle, hfw⟩, hk⟩
    · have hle := HR.out.le
      have hfw := HR.out.few
      have hgt : k + n ≤ l.length := by
        unfold wrap64 at *
        omega
      have e1 : wrap64 ((k : Int) + (n : Int)) = (k : Int) + (n : Int) := by
        unfold wrap64
        omega
      have e2 : wrap64 ((k : Int) + (n : Int) - (n : Int)) = (k : Int) := by
        unfold wrap64
        omega
      have hk : Keep [g] w ((w.drewN nq).setCell ⟨g, 1, none⟩ (.int .i64 ((k : Int) + (n : Int)))) := Keep.setCell ((Keep.refl [g] w).drewN nq) (.inl (by simp)) _
      have hR2 : Rdr ((w.drewN nq).setCell ⟨g, 1, none⟩ (.int .i64 ((k : Int) + (n : Int)))) g (.slice A l.length cap) l (k + n) 0 := ⟨(HR.out.blk.drewN nq).set_ 1 _, HR.out.rd.keep hk (by simp), hgt, hfw⟩
      rw [e1]
      generalize (w.drewN nq).setCell ⟨g, 1, none⟩ (.int .i64 ((k : Int) + (n : Int))) = W2 at *
      clear q0 q1 q2 z1 z2
      have q0 : W2.cell? ⟨g, 0, none⟩ = some (.slice A l.length cap) := hR2.blk.cell_eq rfl
      have q1 : W2.cell? ⟨g, 1, none⟩ = some (.int .i64 ((k : Int) + (n : Int))) := hR2.blk.cell_eq rfl
      obtain ⟨v2, hs2, hr2⟩ := slice_partU hR2.rd k n hgt
      have HR2 := Lib.hid hR2
      have HK2 := Lib.hid hk
      have HS2 := Lib.hid hr2
      clear hR2 hk hr2
      go_quiet (fail)
      go_wp2
      go_ret
      refine ⟨_, rfl, ?_⟩
      simp only [tkB, tkK, tkF, hgt, and_self, if_true, not_true, and_false, if_false]
      have hk3 : Keep [] W2 (W2.drewN nq) := (Keep.refl [] W2).drewN nq
      exact ⟨RdU.keep (HS2.out.mono fun _ _ => trivial) hk3, HR2.out.keep hk3, HK2.out.drewN nq⟩
  · have hne : ((f : Int) = 0) = False := by simp [hf0]
    go_enter Tryz.func96, Tryz.ntmps96
    go_wp2
    go_ret
    refine ⟨_, rfl, ?_⟩
    simp only [tkB, tkK, tkF, hf0, false_and, if_false]
    exact ⟨RdC.nil _ _, HR.out, Keep.refl _ _⟩
set_option maxRecDepth 100000 in
set_option maxHeartbeats 800000 in
/-- Raw. -/
theorem oraw_any (w : World) (g : Nat) (v : Value) (l : List UInt8) (k f n : Nat) (hn : n ≤ 100000000000) (hf : f ≤ 1000) (h : Rdr w g v l k f) :
    Calls Tryz.prog 75 #[.pointer (some ⟨g, 0, none⟩), .int .i64 n] w fun e w' => ∃ v', e = .returned v' ∧ OwnU w' w.heap.size v' (tkB l k f n) ∧ Rdr w' g v l (tkK l k f n) (tkF l k f n) ∧ Keep [g] w w' := by
  have HT := Lib.hid (otake_any w g v l k f n hn hf h)
  have hfew : (tkB l k f n).length ≤ 100000000000 := by
    have := h.few
    unfold tkB
    split
    · rw [List.length_take, List.length_drop]; omega
    · simp
  have hg := h.blk.lt
  clear h
  go_enter Tryz.func75, Tryz.ntmps75
  go_wp2_with (first | (go_at_call 96; refine HT.out.mono ?_; rintro e w1 ⟨v1, rfl, hr1, hR1, hk1⟩; have HC1 := Lib.hid (cloneU_any w1 v1 _ hr1 hfew); have HR1 := Lib.hid hR1; have HK1 := Lib.hid hk1; clear hr1 hR1 hk1) | (go_at_call 30; refine HC1.out.mono ?_; rintro e w2 ⟨v2, rfl, ho2, hk2⟩; have HO2 := Lib.hid ho2; have HK2 := Lib.hid hk2; clear ho2 hk2))
  go_ret
  exact ⟨_, rfl, HO2.out.le HK1.out.size, HR1.out.keep HK2.out, HK1.out.trans HK2.out (by simp)⟩
end Go.Proofs.YtmfoiceofhcicaaGreatDoor
