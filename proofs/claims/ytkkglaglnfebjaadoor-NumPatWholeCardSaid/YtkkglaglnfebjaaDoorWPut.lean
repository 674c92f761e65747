/- Walks: numpat's put, its dress being known. -/
import Derived.Test.YtkkglaglnfebjaaDoorWFits
import Derived.Test.YtkkglaglnfebjaaDoorBK
import Derived.Lib.Repeat
namespace Go.Proofs.YtkkglaglnfebjaaDoor
open Go.RowKit

/-- put writes the bytes bs of the pieces l. -/
def PutOK (l : List Aff) (bs : List UInt8) : Prop := ∀ (b : Nat) (acc : List UInt8) (w : World) (v : Value), Bld b acc w → RdA w v l → (∀ b' o n c, l ≠ [] → v = .slice (some ⟨b', o, none⟩) n c → b' < b) → acc.length ≤ 100000000000 →
  Calls Tryd.prog 44 #[.pointer (some ⟨b, 0, none⟩), v] w fun e w' => e = .returned (.tuple #[]) ∧ Bld b (acc ++ bs) w' ∧ Below b w w' ∧ Lib.OthersKept 5 (some b) w w'
/-- dress makes bs of t. -/
def DressOK (t : ByteArray) (bs : List UInt8) : Prop := ∀ w : World, Calls Tryd.prog 92 #[.string t] w fun e w' => e = .returned (.string ⟨bs.toArray⟩) ∧ Below w.heap.size w w'
/-- What put writes of a piece. -/
def pieceL (dr : ByteArray → List UInt8) (a : Aff) : List UInt8 :=
  if a.k = 1 then dr a.t else if a.k = 2 then [37] else if a.k = 3 then [45] else if a.k = 4 then [43] else if a.k = 5 then Lib.repeatL [194, 164] a.c.toNat else []
theorem OthersKept.of_below {e : TypeId} {b : Option Nat} {w w' : World} (h : Below w.heap.size w w') : Lib.OthersKept e b w w' :=
  fun k _ hk _ _ => (h.block k (Array.getElem?_eq_some_iff.1 hk).1).trans hk
theorem RdA.below {w w' : World} {v : Value} {l : List Aff} {B : Nat} (h : RdA w v l) (hb : Below B w w') (hv : ∀ b' o n c, l ≠ [] → v = .slice (some ⟨b', o, none⟩) n c → b' < B) : RdA w' v l := by
  obtain ⟨A, cap, rfl, h1, h2, h3⟩ := h
  refine ⟨A, cap, rfl, h1, h2, fun hl => ?_⟩
  obtain ⟨b, o, rfl, hlt, hc⟩ := h3 hl
  exact ⟨b, o, rfl, Nat.lt_of_lt_of_le hlt hb.size, fun j u hu => (hb.cell (p := ⟨b, o + j, none⟩) (hv _ _ _ _ hl rfl)).trans (hc j u hu)⟩
theorem Bld.below_new {b : Nat} {acc : List UInt8} {w w' : World} (h : Bld b acc w) (hb : Below w.heap.size w w') : Bld b acc w' := h.keep_nil (Keep.of_below hb)

theorem step_le {a b m : Nat} (h : a ≤ b + m * 1000000000) : a ≤ b + (m + 1) * 1000000000 := Nat.le_trans h (Nat.add_le_add_left (Nat.mul_le_mul_right _ (Nat.le_succ m)) b)
set_option maxRecDepth 100000 in
set_option maxHeartbeats 2000000 in
theorem put_any (dr : ByteArray → List UInt8) (l : List Aff) (hd : ∀ a ∈ l, a.k = 1 → DressOK a.t (dr a.t) ∧ (dr a.t).length ≤ 1000000000) (hc : ∀ a ∈ l, a.k = 5 → 0 ≤ a.c ∧ a.c ≤ 3) (hlen : l.length ≤ 100) : PutOK l (l.flatMap (pieceL dr)) := by
  intro b acc w v hB hv hvb hal
  have HV := Lib.hid hv
  have HVB := Lib.hid hvb
  have HB := Lib.hid hB
  have HD := Lib.hid hd
  have HC := Lib.hid hc
  obtain ⟨A, cap, rfl, h1, h2, h3⟩ := hv
  have H3 := Lib.hid h3
  unfold maxLen at h2
  generalize hn : l.length = n at *
  have Hn := Lib.hid hn
  have hbl := hB.lt
  clear h3 hn hd hc hB hvb
  go_enter Tryd.func44, Tryd.ntmps44
  go_wp2
  go_loopg [8] n (fun k i wr => ∃ (m : Nat) (acc2 : List UInt8), m + k = n ∧ i = .int .i64 m ∧ acc2.length ≤ acc.length + m * 1000000000 ∧ Bld b acc2 wr ∧ acc2 ++ (l.drop m).flatMap (pieceL dr) = acc ++ l.flatMap (pieceL dr) ∧ Below b w wr ∧ Lib.OthersKept 5 (some b) w wr)
  case atStart => exact ⟨0, acc, by omega, rfl, by omega, HB.out, rfl, Below.refl _ _, Lib.OthersKept.refl _ _ _⟩
  case round =>
    obtain ⟨m, acc2, hm, rfl, hal2, hB2, hf, hbw, hok⟩ := hrel
    have HF := Lib.hid hf
    have HB2 := Lib.hid hB2
    have HBW := Lib.hid hbw
    have HOK := Lib.hid hok
    have hmn : m ≤ n := by omega
    have Hm := Lib.hid hm
    have hbl2 := hB2.lt
    clear hf hm hB2 hbw hok HB
    by_cases hlt : m < n
    · obtain ⟨a, ha⟩ : ∃ a, l[m]? = some a := ⟨_, List.getElem?_eq_getElem (by rw [Hn.out]; exact hlt)⟩
      have hd : l.drop m = a :: l.drop (m + 1) := by
        rw [List.drop_eq_getElem_cons (by rw [Hn.out]; exact hlt)]
        congr 1
        exact (List.getElem?_eq_some_iff.1 ha).2
      have HE : Hid (acc2 ++ pieceL dr a ++ (l.drop (m + 1)).flatMap (pieceL dr) = acc ++ l.flatMap (pieceL dr)) := by
        unfold Hid; rw [← HF.out, hd, List.flatMap_cons, List.append_assoc]
      have hV2 : RdA wr (.slice A n cap) l := HV.out.below HBW.out HVB.out
      have hmem : a ∈ l := List.mem_of_getElem? ha
      have HDa := Lib.hid (HD.out a hmem)
      have HCa := Lib.hid (HC.out a hmem)
      obtain ⟨A', cap', hEq, _, _, hcc⟩ := hV2
      obtain ⟨b', o, rfl, hbb, hcell0⟩ := hcc (by rintro rfl; simp at ha)
      have hA : A = some ⟨b', o, none⟩ := by injection hEq
      subst hA
      have hcell : ∀ j u, j < 3 → a.cells[j]? = some u → wr.cell? ⟨b', o + (m * 3 + j), none⟩ = some u := fun j u hj hu => hcell0 _ u (by rw [affC_in l m a ha j hj]; exact hu)
      have c0 : wr.cell? ⟨b', o + m * 3, none⟩ = some (.int .i64 a.k) := hcell 0 _ (by omega) rfl
      have c1 : wr.cell? ⟨b', o + m * 3 + 1, none⟩ = some (.string a.t) := hcell 1 _ (by omega) rfl
      have c2 : wr.cell? ⟨b', o + m * 3 + 2, none⟩ = some (.int .i64 a.c) := hcell 2 _ (by omega) rfl
      clear hcell hcell0 hcc hd ha HV HF HD HC hmem hEq HVB H3
      obtain ⟨ka, ta, ca⟩ := a
      simp only at c0 c1 c2 HDa HCa
      have hmb : m + 1 ≤ n := hlt
      have HBn : Hid (Bld b acc2 (wr.alloc (.cells #[.int .i64 ka, .string ta, .int .i64 ca] 42))) := HB2.out.alloc _
      have HBWn : Hid (Below b w (wr.alloc (.cells #[.int .i64 ka, .string ta, .int .i64 ca] 42))) := HBW.out.alloc (by omega) _
      have HOKn : Hid (Lib.OthersKept 5 (some b) w (wr.alloc (.cells #[.int .i64 ka, .string ta, .int .i64 ca] 42))) := HOK.out.alloc _
      have hln : acc2.length ≤ 110000000000 + 1000000000 * 100 := by omega
      by_cases hk1 : ka = 1
      · subst hk1
        obtain ⟨hdr, hdl⟩ := HDa.out rfl
        have HDr := Lib.hid hdr
        have HE2 : Hid (acc2 ++ dr ta ++ (l.drop (m + 1)).flatMap (pieceL dr) = acc ++ l.flatMap (pieceL dr)) := HE.out
        have hsz : (⟨(dr ta).toArray⟩ : ByteArray).size ≤ 1000000000 := by simpa [ByteArray.size] using hdl
        clear HE HDa HCa hdr
        go_wp2_with (go_at_call 92; refine (HDr.out _).mono ?_; rintro e w1 ⟨rfl, hb1⟩)
        refine (bld_string _ (HBn.out.below_new hb1) (by omega)).mono ?_
        rintro e w2 ⟨rfl, hB3, hb3, ho3⟩
        have HB3 := Lib.hid hB3
        have HX := Lib.hid ((hb1.mono (by simp; omega)).trans hb3)
        have HY := Lib.hid (Lib.OthersKept.trans (OthersKept.of_below (e := 5) (b := some b) hb1) ho3)
        clear hB3 hb1 hb3 ho3
        go_wp2
        go_roundg (n - (m + 1))
        case measure => have := Hm.out; omega
        case rel => exact ⟨m + 1, _, by have := Hm.out; omega, by go_num, by rw [List.length_append]; simpa using (by omega : acc2.length + (dr ta).length ≤ acc.length + (m + 1) * 1000000000), HB3.out, HE2.out, HBWn.out.trans HX.out, HOKn.out.trans HY.out⟩
      by_cases hk2 : ka = 2
      · subst hk2
        have HE2 : Hid (acc2 ++ [37] ++ (l.drop (m + 1)).flatMap (pieceL dr) = acc ++ l.flatMap (pieceL dr)) := HE.out
        clear HE HDa HCa
        go_wp2_with (go_at_call 46; refine (bld_byte 37 (by omega) (by omega) HBn.out (by omega)).mono ?_; rintro e w1 ⟨rfl, hB3, hb3, ho3⟩)
        go_roundg (n - (m + 1))
        case measure => have := Hm.out; omega
        case rel => exact ⟨m + 1, _, by have := Hm.out; omega, by go_num, by rw [List.length_append]; simp; omega, hB3, HE2.out, HBWn.out.trans hb3, HOKn.out.trans ho3⟩
      by_cases hk3 : ka = 3
      · subst hk3
        have HE2 : Hid (acc2 ++ [45] ++ (l.drop (m + 1)).flatMap (pieceL dr) = acc ++ l.flatMap (pieceL dr)) := HE.out
        clear HE HDa HCa
        go_wp2_with (go_at_call 46; refine (bld_byte 45 (by omega) (by omega) HBn.out (by omega)).mono ?_; rintro e w1 ⟨rfl, hB3, hb3, ho3⟩)
        go_roundg (n - (m + 1))
        case measure => have := Hm.out; omega
        case rel => exact ⟨m + 1, _, by have := Hm.out; omega, by go_num, by rw [List.length_append]; simp; omega, hB3, HE2.out, HBWn.out.trans hb3, HOKn.out.trans ho3⟩
      by_cases hk4 : ka = 4
      · subst hk4
        have HE2 : Hid (acc2 ++ [43] ++ (l.drop (m + 1)).flatMap (pieceL dr) = acc ++ l.flatMap (pieceL dr)) := HE.out
        clear HE HDa HCa
        go_wp2_with (go_at_call 46; refine (bld_byte 43 (by omega) (by omega) HBn.out (by omega)).mono ?_; rintro e w1 ⟨rfl, hB3, hb3, ho3⟩)
        go_roundg (n - (m + 1))
        case measure => have := Hm.out; omega
        case rel => exact ⟨m + 1, _, by have := Hm.out; omega, by go_num, by rw [List.length_append]; simp; omega, hB3, HE2.out, HBWn.out.trans hb3, HOKn.out.trans ho3⟩
      by_cases hk5 : ka = 5
      · subst hk5
        obtain ⟨hc0, hc3⟩ := HCa.out rfl
        obtain ⟨c, rfl⟩ := Int.eq_ofNat_of_zero_le hc0
        have HE2 : Hid (acc2 ++ Lib.repeatL [194, 164] c ++ (l.drop (m + 1)).flatMap (pieceL dr) = acc ++ l.flatMap (pieceL dr)) := HE.out
        have hrl : (Lib.repeatL [194, 164] c).length ≤ 6 := by rw [Lib.repeatL_length]; simp; omega
        have hsz : (⟨(Lib.repeatL [194, 164] c).toArray⟩ : ByteArray).size ≤ 6 := by simpa [ByteArray.size] using hrl
        have HR : ∀ W, Hid (Calls Tryd.prog 48 #[.string ⟨#[194, 164]⟩, .int .i64 c] W fun e w' => e = .returned (.string ⟨(Lib.repeatL [194, 164] c).toArray⟩) ∧ Below W.heap.size W w') := fun W => Tryd.strings_Repeat ⟨#[194, 164]⟩ c W (by omega) (by show 2 * c ≤ _; omega)
        clear HE HDa HCa
        go_wp2_with (go_at_call 48; refine (HR _).out.mono ?_; rintro e w1 ⟨rfl, hb1⟩)
        refine (bld_string _ (HBn.out.below_new hb1) (by omega)).mono ?_
        rintro e w2 ⟨rfl, hB3, hb3, ho3⟩
        have HB3 := Lib.hid hB3
        have HX := Lib.hid ((hb1.mono (by simp; omega)).trans hb3)
        have HY := Lib.hid (Lib.OthersKept.trans (OthersKept.of_below (e := 5) (b := some b) hb1) ho3)
        clear hB3 hb1 hb3 ho3
        go_wp2
        go_roundg (n - (m + 1))
        case measure => have := Hm.out; omega
        case rel => exact ⟨m + 1, _, by have := Hm.out; omega, by go_num, by rw [List.length_append]; simpa using (by omega : acc2.length + (Lib.repeatL [194, 164] c).length ≤ acc.length + (m + 1) * 1000000000), HB3.out, HE2.out, HBWn.out.trans HX.out, HOKn.out.trans HY.out⟩
      have e1 : (ka == 1) = false := by simpa using hk1
      have e2 : (ka == 2) = false := by simpa using hk2
      have e3 : (ka == 3) = false := by simpa using hk3
      have e4 : (ka == 4) = false := by simpa using hk4
      have e5 : (ka == 5) = false := by simpa using hk5
      have HE2 : Hid (acc2 ++ [] ++ (l.drop (m + 1)).flatMap (pieceL dr) = acc ++ l.flatMap (pieceL dr)) := by
        have := HE.out
        unfold Hid
        rw [← this]
        simp [pieceL, hk1, hk2, hk3, hk4, hk5]
      clear HE HDa HCa hk1 hk2 hk3 hk4 hk5
      go_wp2
      go_roundg (n - (m + 1))
      case measure => have := Hm.out; omega
      case rel => exact ⟨m + 1, acc2, by have := Hm.out; omega, by go_num, step_le hal2, HBn.out, by have := HE2.out; rw [List.append_nil] at this; exact this, HBWn.out, HOKn.out⟩
    · have HE : Hid (acc2 = acc ++ l.flatMap (pieceL dr)) := by
        have hnil : l.drop m = [] := List.drop_eq_nil_of_le (by rw [Hn.out]; omega)
        have := HF.out
        rw [hnil] at this
        unfold Hid
        simpa using this
      clear HF
      go_wp2
      go_end0
      exact ⟨rfl, HE.out ▸ HB2.out, HBW.out, HOK.out⟩
end Go.Proofs.YtkkglaglnfebjaaDoor
