/- Walks: the small steps of the writer of code: word, place, here, opt. -/
import Derived.Test.YtmfoiceofhcicaaGreatDoorKF
namespace Go.Proofs.YtmfoiceofhcicaaGreatDoor
open Go.RowKit Go.IntWalk

/-- A writer that holds bytes of its own. -/
structure Wr (w : World) (g mb B : Nat) (v : Value) (l : List UInt8) : Prop where
  blk : Blk w g 100 #[.map (some mb), v]
  own : OwnU w B v l
section
variable {w w' : World} {g mb B : Nat} {v : Value} {l : List UInt8}
theorem Wr.cells (h : Wr w g mb B v l) : w.cell? ⟨g, 0, none⟩ = some (.map (some mb)) ∧ w.cell? ⟨g, 1, none⟩ = some v ∧ w.frozen? ⟨g, 1, none⟩ = false := ⟨h.blk.cell_eq rfl, h.blk.cell_eq rfl, h.blk.frozen 1⟩
theorem Wr.ne (h : Wr w g mb B v l) : ∀ x ∈ v.ownBlock.toList, x ≠ g := fun x hx => by
  rintro rfl
  exact own_blk_ne h.own h.blk (by decide) (by simpa using hx)
theorem Wr.keep {bs : List Nat} (h : Wr w g mb B v l) (hk : Keep bs w w') (hg : g ∉ bs) (hb : ∀ x ∈ v.ownBlock.toList, x ∉ bs) : Wr w' g mb B v l := ⟨h.blk.keep hk hg, h.own.keep hk hb⟩
end
set_option maxRecDepth 100000 in
set_option maxHeartbeats 1000000 in
/-- place. -/
theorem place_any (w : World) (g mb B : Nat) (v : Value) (l : List UInt8) (n : Nat) (h : Wr w g mb B v l) (hB : B ≤ w.heap.size) (hl : l.length ≤ 5000000000) (hn : n ≤ 2000000000) :
    Calls Tryz.prog 51 #[.pointer (some ⟨g, 0, none⟩), .int .i64 n] w fun e w' => e = .returned (.int .i64 l.length) ∧ ∃ v', Wr w' g mb B v' (l ++ w32 n) ∧ (∀ x ∈ v'.ownBlock.toList, w.heap.size ≤ x) ∧ Keep [g] w w' := by
  obtain ⟨c0, c1, f1⟩ := h.cells
  have HW := Lib.hid h
  have HP := Lib.hid (put32_any w v l n (by omega) h.own.reads (by omega))
  have hgl := h.blk.lt
  obtain ⟨A, cap, rfl⟩ := h.own.form
  clear h
  go_enter Tryz.func51, Tryz.ntmps51
  go_wp2_with (go_at_call 71; refine HP.out.mono ?_; rintro e w1 ⟨v1, rfl, ho1, hk1⟩; have HO1 := Lib.hid ho1; have HK1 := Lib.hid hk1; have hb1 := HW.out.blk.keep hk1 (by simp); have HB1 := Lib.hid hb1; have d1 : w1.cell? ⟨g, 1, none⟩ = some (.slice A l.length cap) := hb1.cell_eq rfl; have z1 := hb1.frozen 1; obtain ⟨A1, m1, cap1, rfl⟩ := ho1.formM; clear ho1 hk1 hb1)
  go_ret
  have hks : Keep [g] w1 (w1.setCell ⟨g, 1, none⟩ (.slice A1 m1 cap1)) := (Keep.refl _ _).setCell (.inl (by simp)) _
  have hog : ∀ x ∈ (Value.slice A1 m1 cap1).ownBlock.toList, w.heap.size ≤ x := fun x hx => (HO1.out.lt x hx).1
  exact ⟨rfl, _, ⟨Blk.set_ HB1.out 1 _, (HO1.out.keep hks (fun x hx hc => by have := hog x hx; simp at hc; omega)).le hB⟩, hog, (HK1.out.mono (fun x hx => by cases hx)).same hks⟩
/-- Numbers in a slice. -/
def RdN (w : World) (v : Value) (ns : List Nat) : Prop := RdC (fun _ => True) w v ns.length (ns.map fun n : Nat => Value.int .i64 (n : Int))
set_option maxRecDepth 100000 in
set_option maxHeartbeats 1000000 in
/-- word. -/
theorem word_any (w : World) (g mb B : Nat) (v : Value) (l : List UInt8) (ns : List Nat) (nv : Value) (h : Wr w g mb B v l) (hB : B ≤ w.heap.size) (hr : RdN w nv ns) (hg : ∀ A m c, nv = .slice A m c → ∀ b o, A = some ⟨b, o, none⟩ → b ≠ g) (hl : l.length ≤ 5000000000) (hc : ns.length ≤ 1000) (hn : ∀ n ∈ ns, n < 65536) :
    Calls Tryz.prog 50 #[.pointer (some ⟨g, 0, none⟩), nv] w fun e w' => e = .returned (.tuple #[]) ∧ ∃ v', Wr w' g mb B v' (l ++ ns.flatMap w16) ∧ (ns ≠ [] → ∀ x ∈ v'.ownBlock.toList, w.heap.size ≤ x) ∧ Keep [g] w w' := by
  obtain ⟨A, cap, rfl, _, _, hcell⟩ := hr
  have HW := Lib.hid h
  have hgl := h.blk.lt
  have HCL := Lib.hid hcell
  have HG := Lib.hid hg
  have HN := Lib.hid hn
  clear h hcell hg hn
  go_enter Tryz.func50, Tryz.ntmps50
  go_wp2
  go_loopw [8] (fun i wr => ∃ (k : Nat) (v' : Value), k ≤ ns.length ∧ i = .int .i64 k ∧ Wr wr g mb B v' (l ++ (ns.take k).flatMap w16) ∧ (k ≠ 0 → ∀ x ∈ v'.ownBlock.toList, w.heap.size ≤ x) ∧ Keep [g] w wr) (fun i _ => ns.length - (intOf i).toNat)
  case atStart => exact ⟨0, v, Nat.zero_le _, rfl, by simpa using HW.out, fun h => absurd rfl h, Keep.refl _ _⟩
  case round =>
    obtain ⟨k, v', hk, rfl, hW, hV, hK⟩ := hrel
    by_cases hlt : k < ns.length
    · obtain ⟨b, o, rfl, _, hb, hat⟩ := HCL.out (by omega)
      obtain ⟨n, hnk⟩ : ∃ n, ns[k]? = some n := ⟨_, List.getElem?_eq_getElem hlt⟩
      have hne := HG.out _ _ _ rfl b o rfl
      have a0 : wr.cell? ⟨b, o + k, none⟩ = some (.int .i64 (n : Int)) := (hK.cell (p := ⟨b, o + k, none⟩) hb (by simpa using hne)).trans (hat k _ (by rw [List.getElem?_map, hnk]; rfl))
      have hbr := Nat.lt_of_lt_of_le hb hK.size
      have hn1 := HN.out n (List.mem_of_getElem? hnk)
      have HT : Hid ((ns.take (k + 1)).flatMap w16 = (ns.take k).flatMap w16 ++ w16 n) := by unfold Hid; rw [take_snoc' hnk, List.flatMap_append]; simp
      have hlen : ((ns.take k).flatMap w16).length ≤ 2000 := by
        rw [List.length_flatMap]
        have : ∀ a : List Nat, (a.map fun x => (w16 x).length).sum = 2 * a.length := fun a => by
          induction a with
          | nil => rfl
          | cons x a ih => rw [List.map_cons, List.sum_cons, ih, w16_len, List.length_cons]; omega
        rw [this, List.length_take]
        omega
      obtain ⟨L, hL⟩ : ∃ L, l ++ (ns.take k).flatMap w16 = L := ⟨_, rfl⟩
      have HLL := Lib.hid hL
      have hLl : L.length ≤ 5000002000 := by rw [← hL, List.length_append]; omega
      rw [hL] at hW
      clear hL
      obtain ⟨c0, c1, f1⟩ := hW.cells
      obtain ⟨A2, m2, cap2, rfl⟩ := hW.own.formM
      have HW1 := Lib.hid hW
      have HK := Lib.hid hK
      have HP := Lib.hid (put16_any wr _ L n hn1 hW.own.reads (by omega))
      have hgr := hW.blk.lt
      clear hW hK hV hnk
      go_wp2_with (go_at_call 70; refine HP.out.mono ?_; rintro e w1 ⟨v1, rfl, ho1, hk1⟩; have HO1 := Lib.hid ho1; have HK1 := Lib.hid hk1; have hb1 := HW1.out.blk.keep hk1 (by simp); have HB1 := Lib.hid hb1; have d1 : w1.cell? ⟨g, 1, none⟩ = some (.slice A2 m2 cap2) := hb1.cell_eq rfl; have z1 := hb1.frozen 1; obtain ⟨A1, m1, cap1, rfl⟩ := ho1.formM; clear ho1 hk1 hb1)
      have hks : Keep [g] w1 (w1.setCell ⟨g, 1, none⟩ (.slice A1 m1 cap1)) := (Keep.refl _ _).setCell (.inl (by simp)) _
      have hog : ∀ x ∈ (Value.slice A1 m1 cap1).ownBlock.toList, wr.heap.size ≤ x := fun x hx => (HO1.out.lt x hx).1
      have hsz := HK.out.size
      go_roundw
      case rel => exact ⟨k + 1, .slice A1 m1 cap1, by omega, by go_num, ⟨Blk.set_ HB1.out 1 _, by rw [HT.out, ← List.append_assoc, HLL.out]; exact (HO1.out.keep hks (fun x hx hc => by have := hog x hx; simp at hc; omega)).le (by omega)⟩, fun _ x hx => by have := hog x hx; omega, (HK.out.same (HK1.out.mono (fun x hx => by cases hx))).same hks⟩
      case measure => simp [intOf]; omega
    · obtain rfl : k = ns.length := by omega
      go_wp2
      go_end0
      rw [List.take_length] at hW
      exact ⟨rfl, v', hW, fun hne => hV (by intro h; exact hne (List.eq_nil_of_length_eq_zero h)), hK⟩
end Go.Proofs.YtmfoiceofhcicaaGreatDoor
