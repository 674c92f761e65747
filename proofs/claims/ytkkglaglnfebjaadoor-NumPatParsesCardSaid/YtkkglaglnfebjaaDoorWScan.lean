/- Walks: the reference's scan: is, wrong. -/
import Derived.Test.YtkkglaglnfebjaaDoorWRd
import Derived.Test.YtkkglaglnfebjaaDoorRV
namespace Go.Proofs.YtkkglaglnfebjaaDoor
open Go.RowKit Go.IntWalk

theorem affC_ones (l : List Aff) : ∀ u ∈ affC l, u.oneCell' = true := by
  intro u hu
  obtain ⟨a, _, ha⟩ := List.mem_flatMap.1 hu
  simp only [Aff.cells, List.mem_cons, List.mem_nil_iff, or_false] at ha
  rcases ha with rfl | rfl | rfl <;> rfl
theorem addr_plus (b o j : Nat) : (⟨b, o, none⟩ : Addr).add j = ⟨b, o + j, none⟩ := by unfold Addr.add; split <;> simp_all
/-- The reference's scan in block g: the text, the place, the error and its place. -/
def Sc (w : World) (g : Nat) (s : ByteArray) (q : Int) (e ea : Int) : Prop := Blk w g 69 #[.string s, .int .i64 q, .int .i64 e, .int .i64 ea]
section
variable {w w' : World} {g : Nat} {s : ByteArray} {q e ea : Int} {bs : List Nat}
theorem Sc.all (h : Sc w g s q e ea) : w.cell? ⟨g, 0, none⟩ = some (.string s) ∧ w.cell? ⟨g, 1, none⟩ = some (.int .i64 q) ∧ w.cell? ⟨g, 2, none⟩ = some (.int .i64 e) ∧ w.cell? ⟨g, 3, none⟩ = some (.int .i64 ea) ∧ (∀ i, w.frozen? ⟨g, i, none⟩ = false) ∧ g < w.heap.size :=
  ⟨Blk.cell_eq h rfl, Blk.cell_eq h rfl, Blk.cell_eq h rfl, Blk.cell_eq h rfl, Blk.frozen h, Blk.lt h⟩
theorem Sc.keep (h : Sc w g s q e ea) (hk : Keep bs w w') (hg : g ∉ bs) : Sc w' g s q e ea := Blk.keep h hk hg
theorem Sc.place (h : Sc w g s q e ea) (p : Int) : Sc (w.setCell ⟨g, 1, none⟩ (.int .i64 p)) g s p e ea := Blk.set_ h 1 _
theorem Sc.drewN (h : Sc w g s q e ea) (n : Nat) : Sc (w.drewN n) g s q e ea := h
end
/-- Does the text word stand at q? -/
def preB (s : ByteArray) (q : Nat) (word : ByteArray) : Bool := Lib.hasPrefix (s.extract q s.size).data.toList word.data.toList

theorem ext_list (s : ByteArray) (q : Nat) : (s.extract q s.size).data.toList = s.data.toList.drop q := by
  simp only [ByteArray.data_extract, Array.toList_extract, List.extract_eq_take_drop]
  rw [List.take_of_length_le]
  rw [List.length_drop, Array.length_toList]
  exact Nat.le_refl _
theorem get_list (s : ByteArray) (q : Nat) (h : q < s.size) : s.data.toList[q]? = some (s.get! q) := by
  rw [get!_eq s q h, List.getElem?_eq_getElem (by simpa using h)]
  simp [ByteArray.getElem_eq_getElem_data]
theorem drop_cons (s : ByteArray) (q : Nat) (h : q < s.size) : s.data.toList.drop q = s.get! q :: s.data.toList.drop (q + 1) := by
  have h2 := get_list s q h
  have h3 : q < s.data.toList.length := by simpa using h
  rw [List.drop_eq_getElem_cons h3]
  congr 1
  rw [List.getElem?_eq_getElem h3] at h2
  exact Option.some.inj h2
theorem preB_one (s : ByteArray) (q : Nat) (b : UInt8) : preB s q ⟨#[b]⟩ = decide (isB s q b.toNat) := by
  unfold preB Lib.hasPrefix
  rw [ext_list]
  by_cases h : q < s.size
  · rw [drop_cons s q h]
    simp only [List.isPrefixOf, Bool.and_true]
    by_cases hb : (s.get! q).toNat = b.toNat
    · rw [decide_eq_true ⟨h, hb⟩, beq_iff_eq]
      exact (UInt8.toNat_inj.1 hb).symm
    · rw [decide_eq_false (fun hc => hb hc.2)]
      simp only [beq_eq_false_iff_ne]
      exact fun hc => hb (by rw [hc])
  · rw [decide_eq_false (fun hc => h hc.1), List.drop_eq_nil_of_le (by simpa using Nat.le_of_not_lt h)]
    rfl
theorem preB_two (s : ByteArray) (q : Nat) (b c : UInt8) : preB s q ⟨#[b, c]⟩ = decide (isB s q b.toNat ∧ isB s (q + 1) c.toNat) := by
  have h1 := preB_one s q b
  have h2 := preB_one s (q + 1) c
  unfold preB Lib.hasPrefix at *
  rw [ext_list] at *
  by_cases h : q < s.size
  · rw [drop_cons s q h] at *
    simp only [List.isPrefixOf, Bool.and_true] at h1 ⊢
    change (b == s.get! q && [c].isPrefixOf (s.data.toList.drop (q + 1))) = _
    rw [h1, show [c].isPrefixOf (s.data.toList.drop (q + 1)) = _ from h2, Bool.decide_and]
  · rw [decide_eq_false (fun hc => h hc.1.1), List.drop_eq_nil_of_le (by simpa using Nat.le_of_not_lt h)]
    rfl
theorem has_any (s p : ByteArray) (w : World) : Calls Tryd.prog 79 #[.string s, .string p] w fun e w' => e = .returned (.bool (Lib.hasPrefix s.data.toList p.data.toList)) ∧ w = w' := by
  go_enter Tryd.func79, Tryd.ntmps79
  go_wp2_with (go_at_call 109; refine (Tryd.stringslite_HasPrefix s p _).mono ?_; rintro e w' ⟨rfl, rfl⟩)
  go_ret
  exact ⟨rfl, rfl⟩
set_option maxRecDepth 100000 in
set_option maxHeartbeats 400000 in
theorem is_any (w : World) (g : Nat) (s : ByteArray) (q : Nat) (e ea : Int) (word : ByteArray) (h : Sc w g s q e ea) (hq : q ≤ s.size) :
    Calls Tryd.prog 39 #[.pointer (some ⟨g, 0, none⟩), .string word] w fun x w' => x = .returned (.bool (preB s q word)) ∧ w.drew = w' := by
  obtain ⟨c0, c1, c2, c3, cf, cz⟩ := h.all
  have hq2 : (q : Int) ≤ s.size := by omega
  have HH : ∀ W, Hid (Calls Tryd.prog 79 #[.string (s.extract q s.size), .string word] W fun e w' => e = .returned (.bool (preB s q word)) ∧ W = w') := fun W => has_any _ _ W
  clear h c2 c3
  go_enter Tryd.func39, Tryd.ntmps39
  go_upto_region 1 with fail
  go_region_held3 (fun W => W.cell? ⟨g, 0, none⟩ = some (.string s) ∧ W.cell? ⟨g, 1, none⟩ = some (.int .i64 q)) (exact ⟨c0, c1⟩) (first | (go_at_call 79; refine (HH _).out.mono ?_; rintro e w' ⟨rfl, rfl⟩))
  go_wp2
  go_ret
  exact ⟨rfl, rfl⟩
set_option maxRecDepth 100000 in
set_option maxHeartbeats 400000 in
theorem wrong_any (w : World) (g : Nat) (s : ByteArray) (q : Int) (ea x y : Int) (h : Sc w g s q 0 ea) :
    Calls Tryd.prog 40 #[.pointer (some ⟨g, 0, none⟩), .int .i64 x, .int .i64 y] w fun e w' => e = .returned (.tuple #[]) ∧ Sc w' g s q x y ∧ Keep [g] w w' := by
  obtain ⟨c0, c1, c2, c3, cf, cz⟩ := h.all
  have H := Lib.hid h
  clear h
  go_enter Tryd.func40, Tryd.ntmps40
  go_wp2
  go_end0
  refine ⟨rfl, ?_, ?_⟩
  · exact Blk.set_ (Blk.set_ H.out 2 _) 3 _
  · exact ((Keep.refl [g] w).setCell (.inl (by simp)) _).setCell (.inl (by simp)) _
end Go.Proofs.YtkkglaglnfebjaaDoor
