/- Walks: the reference's bare and put. -/
import Derived.Test.YtkkglaglnfebjaaDoorWDress
namespace Go.Proofs.YtkkglaglnfebjaaDoor
open Go.RowKit Go.IntWalk

theorem bne_turn : ∀ (a b : Bool), (a != b) = true → b = !a := by decide
theorem encode_list (r : Int) (hv : Lib.validRune r = true) : (Utf8.encode r).data.toList = Lib.encodeRune r := by
  have hv2 : Utf8.valid r = true := by rw [validRune_eq]; exact hv
  simp only [Lib.validRune, decide_eq_true_eq] at hv
  obtain ⟨c, rfl⟩ := Int.eq_ofNat_of_zero_le (show 0 ≤ r by omega)
  have key : ∀ (z : Int) (k : Nat), z = k → UInt8.ofNat k = z.toNat.toUInt8 := fun z k h => by subst h; simp
  unfold Utf8.encode Lib.encodeRune
  simp only [hv2, if_true, Int.toNat_natCast]
  by_cases h0 : c < 128
  · rw [if_pos h0, Lib.encodeRuneZ_one (by omega) (by omega)]
    simp
  · rw [if_neg h0]
    by_cases h1 : c < 2048
    · rw [if_pos h1, Lib.encodeRuneZ_two (by omega) (by omega)]
      simp only [List.map_cons, List.map_nil]
      rw [← key (192 + (c : Int) / 64) (192 + c / 64) (by omega), ← key (128 + (c : Int) % 64) (128 + c % 64) (by omega)]
    · rw [if_neg h1]
      by_cases h2 : c < 65536
      · rw [if_pos h2, Lib.encodeRuneZ_three (by omega)]
        simp only [List.map_cons, List.map_nil]
        rw [← key (224 + (c : Int) / 4096) (224 + c / 4096) (by omega), ← key (128 + (c : Int) / 64 % 64) (128 + c / 64 % 64) (by omega), ← key (128 + (c : Int) % 64) (128 + c % 64) (by omega)]
      · rw [if_neg h2, Lib.encodeRuneZ_four (by omega) (by omega)]
        simp only [List.map_cons, List.map_nil]
        rw [← key (240 + (c : Int) / 262144) (240 + c / 262144) (by omega), ← key (128 + (c : Int) / 4096 % 64) (128 + c / 4096 % 64) (by omega), ← key (128 + (c : Int) / 64 % 64) (128 + c / 64 % 64) (by omega), ← key (128 + (c : Int) % 64) (128 + c % 64) (by omega)]
theorem cat_list (t x : ByteArray) : (t ++ x).data.toList = t.data.toList ++ x.data.toList := by rw [ByteArray.data_append, Array.toList_append]
theorem size_list (t : ByteArray) : t.size = t.data.toList.length := by rw [Array.length_toList]; rfl
theorem list_string (x : ByteArray) (l : List UInt8) (h : x.data.toList = l) : x = ⟨l.toArray⟩ := by subst h; cases x; simp

set_option maxRecDepth 100000 in
theorem bare_any (r : Int) (hv : Lib.validRune r = true) (w : World) :
    Calls Tryd.prog 96 #[.int .i32 r] w fun e w' => e = .returned (.bool (!specB r)) ∧ Keep [] w w' := by
  have HC := fun W => Lib.hid (cont_any r hv W)
  clear hv
  generalize specB r = sb at *
  go_enter Tryd.func96, Tryd.ntmps96
  go_wp2_with (go_at_call 108; refine (HC _).out.mono ?_; rintro e w' ⟨rfl, hk⟩)
  go_ret
  exact ⟨rfl, hk⟩
/-- What holds in put's inner loop. -/
structure RqW (w : World) (g : Nat) (t : ByteArray) (x0 : List UInt8) (R : List UInt8) (o : Bool) (f pos : Nat) (x : ByteArray) (wx : World) : Prop where
  it : wx.heap[g]? = some (.stringIter t pos)
  kp : Keep [g] w wx
  eq : x.data.toList ++ dressF t f pos o = x0 ++ R
  len : x.size ≤ x0.length + 6 * pos
  fuel : t.size < pos + f
  le : pos ≤ t.size
theorem RqW.step {w wx w' : World} {g f pos : Nat} {t x x' : ByteArray} {x0 R xs : List UInt8} {o o' : Bool} (h : RqW w g t x0 R o (f + 1) pos x wx) (hlt : pos < t.size) (hk : Keep [] (wx.iterAt g t (pos + (Utf8.decode t pos).2)) w') (hx : x'.data.toList = x.data.toList ++ xs) (h6 : xs.length ≤ 6)
    (he : dressF t (f + 1) pos o = xs ++ dressF t f (pos + (Utf8.decode t pos).2) o') : RqW w g t x0 R o' f (pos + (Utf8.decode t pos).2) x' w' :=
  ⟨(hk.block g (by rw [Lib.iterAt_size]; exact Blk.lt' h.it) (by simp)).trans (Lib.iterAt_heap wx g t pos _ h.it), (h.kp.same keep_iterAt).nil hk, by rw [hx, List.append_assoc, ← he]; exact h.eq,
    by have := h.len; have := Lib.width_pos t pos; rw [size_list, hx, List.length_append, ← size_list]; omega, by have := h.fuel; have := Lib.width_pos t pos; omega, dec_le t pos hlt⟩

theorem RdA.keep_new {w w' : World} {g : Nat} {v : Value} {l : List Aff} (h : RdA w v l) (hk : Keep [g] w w') (hg : w.heap.size ≤ g) : RdA w' v l := h.keep_nil (hk.mono (fun x hx => by simp at hx; subst hx; exact .inr hg))
set_option maxRecDepth 100000 in
set_option maxHeartbeats 4000000 in
theorem rput_any (w : World) (v : Value) (l : List Aff) (hv : RdA w v l) (hk : ∀ a ∈ l, 1 ≤ a.k ∧ a.k ≤ 5) (hc : ∀ a ∈ l, a.k = 5 → 0 ≤ a.c ∧ a.c ≤ 3) (ht : ∀ a ∈ l, a.t.size ≤ 1000000000) (hlen : l.length ≤ 100) :
    Calls Tryd.prog 51 #[v] w fun e w' => e = .returned (.string ⟨(l.flatMap (pieceL dressL)).toArray⟩) ∧ Keep [] w w' := by
  have HV := Lib.hid hv
  have HK := Lib.hid hk
  have HC := Lib.hid hc
  have HT := Lib.hid ht
  obtain ⟨A, cap, rfl, h1, h2, h3⟩ := hv
  unfold maxLen at h2
  generalize hn : l.length = n at *
  have Hn := Lib.hid hn
  clear h3 hn hk hc ht
  go_enter Tryd.func51, Tryd.ntmps51
  go_wp2
  go_loopg [3, 11] n (fun k s3 i wr => ∃ (m : Nat) (x : ByteArray), m + k = n ∧ i = .int .i64 m ∧ s3 = .string x ∧ x.size ≤ m * 7000000000 ∧ x.data.toList ++ (l.drop m).flatMap (pieceL dressL) = l.flatMap (pieceL dressL) ∧ Keep [] w wr)
  case atStart => exact ⟨0, ⟨#[]⟩, by omega, rfl, rfl, by decide, rfl, Keep.refl _ _⟩
  case round =>
    obtain ⟨m, x, hm, rfl, rfl, hxl, hf, hkw⟩ := hrel
    obtain ⟨ok, hok⟩ : ∃ ok, gk = ok := ⟨_, rfl⟩
    have HF := Lib.hid hf
    have HKW := Lib.hid hkw
    have hmn : m ≤ n := by omega
    have Hm := Lib.hid hm
    clear hf hm hkw
    have hxs : x.size ≤ 700000000000 := by omega
    have HPl : ∀ y : ByteArray, y.size ≤ 2000000000000 → Hid (∀ (W : World) (z : ByteArray), z.size ≤ 10 → (Op.stringOp .add y z).run Tryd.prog W = .ok (.string (y ++ z)) W) := fun y hy W z hz => run_string_add_sum W _ _ (by omega)
    by_cases hlt : m < n
    · obtain ⟨a, ha⟩ : ∃ a, l[m]? = some a := ⟨_, List.getElem?_eq_getElem (by rw [Hn.out]; exact hlt)⟩
      have hd : l.drop m = a :: l.drop (m + 1) := by
        rw [List.drop_eq_getElem_cons (by rw [Hn.out]; exact hlt)]
        congr 1
        exact (List.getElem?_eq_some_iff.1 ha).2
      have HE : Hid (x.data.toList ++ pieceL dressL a ++ (l.drop (m + 1)).flatMap (pieceL dressL) = l.flatMap (pieceL dressL)) := by
        unfold Hid; rw [← HF.out, hd, List.flatMap_cons, List.append_assoc]
      have hV2 : RdA wr (.slice A n cap) l := HV.out.keep_nil HKW.out
      have hmem : a ∈ l := List.mem_of_getElem? ha
      have HKa := Lib.hid (HK.out a hmem)
      have HCa := Lib.hid (HC.out a hmem)
      have HTa := Lib.hid (HT.out a hmem)
      obtain ⟨A', cap', hEq, _, _, hcc⟩ := hV2
      obtain ⟨b', o, rfl, hbb, hcell0⟩ := hcc (by rintro rfl; simp at ha)
      have hA : A = some ⟨b', o, none⟩ := by injection hEq
      subst hA
      have hcell : ∀ j u, j < 3 → a.cells[j]? = some u → wr.cell? ⟨b', o + (m * 3 + j), none⟩ = some u := fun j u hj hu => hcell0 _ u (by rw [affC_in l m a ha j hj]; exact hu)
      have c0 : wr.cell? ⟨b', o + m * 3, none⟩ = some (.int .i64 a.k) := hcell 0 _ (by omega) rfl
      have c1 : wr.cell? ⟨b', o + m * 3 + 1, none⟩ = some (.string a.t) := hcell 1 _ (by omega) rfl
      have c2 : wr.cell? ⟨b', o + m * 3 + 2, none⟩ = some (.int .i64 a.c) := hcell 2 _ (by omega) rfl
      clear hcell hcell0 hcc hd ha HV HF HK HC HT hmem hEq
      obtain ⟨ka, ta, ca⟩ := a
      simp only at c0 c1 c2 HKa HCa HTa
      have HKn : Hid (Keep [] w (wr.alloc (.cells #[.int .i64 ka, .string ta, .int .i64 ca] 42))) := HKW.out.alloc _
      by_cases hk1 : ka = 1
      · subst hk1
        have HE2 : Hid (x.data.toList ++ dressL ta ++ (l.drop (m + 1)).flatMap (pieceL dressL) = l.flatMap (pieceL dressL)) := HE.out
        have hta := HTa.out
        have hww := HKW.out.size
        clear HE HKa HCa HTa hbb
        go_wp2
        clear c0 c1 c2
        obtain ⟨g, hg⟩ : ∃ g, wr.heap.size + 1 = g := ⟨_, rfl⟩
        obtain ⟨W0, hW0⟩ : ∃ W0, wr.alloc (.cells #[.int .i64 1, .string ta, .int .i64 ca] 42) = W0 := ⟨_, rfl⟩
        have hsz0 : W0.heap.size = g := by rw [← hW0, ← hg]; simp
        rw [hg, hW0]
        have HKn2 : Hid (Keep [] w W0) := hW0 ▸ HKn.out
        have HR0 : Hid (RqW W0 g ta x.data.toList (dressL ta) false (ta.size + 1) 0 x (W0.alloc (.stringIter ta 0))) := ⟨by rw [← hsz0]; exact heap_alloc_new _ _, (Keep.refl _ _).alloc _, rfl, by rw [← size_list]; omega, by omega, Nat.zero_le _⟩
        clear hW0 HKn hg
        go_loopg [3, 6] (ta.size + 1) (fun k s3 s6 wx => ∃ (pos : Nat) (y : ByteArray) (o : Bool), s3 = .string y ∧ s6 = .bool o ∧ RqW W0 g ta x.data.toList (dressL ta) o k pos y wx)
        case atStart => exact ⟨0, x, false, rfl, rfl, HR0.out⟩
        case round =>
          obtain ⟨pos, y, o, rfl, rfl, hD⟩ := hrel
          obtain ⟨f, rfl⟩ : ∃ f, gk = f + 1 := ⟨gk - 1, by have := hD.fuel; have := hD.le; omega⟩
          have hyl : y.size ≤ 1700000000000 := by have := hD.le; have h7 := hD.len; rw [← size_list] at h7; omega
          have hit := hD.it
          have HD := Lib.hid hD
          clear hD HR0
          by_cases hlt2 : pos < ta.size
          · have hnx := fun ty => Lib.run_next_any_at (P := Tryd.prog) wr g ta pos ty hit hlt2
            have HV := Lib.hid (dec_valid ta pos)
            have hel := encodeRune_len ((Utf8.decode ta pos).1 : Int)
            have HEL := Lib.hid hel
            clear hit hel
            cases h39 : (((Utf8.decode ta pos).1 : Int) == 39)
            · have hp := (HPl y (by omega)).out
              have hp2 := (HPl (y ++ ⟨#[39]⟩) (by rw [size_list, cat_list, List.length_append, ← size_list]; show y.size + 1 ≤ _; omega)).out
              have hBr := fun W => Lib.hid (bare_any _ HV.out W)
              have hcv : ∀ W : World, (convert 21 9 (.int .i32 ((Utf8.decode ta pos).1 : Int))).run Tryd.prog W = .ok (.string (Utf8.encode ((Utf8.decode ta pos).1 : Int))) W := fun W => run_convert_int_string W _ _ _ _ (by kernel_rfl) (by kernel_rfl)
              have hel := encode_list ((Utf8.decode ta pos).1 : Int) HV.out
              have hes : (Utf8.encode ((Utf8.decode ta pos).1 : Int)).size ≤ 4 := by rw [size_list, hel]; exact HEL.out
              have HEI := Lib.hid hel
              clear hel HPl
              cases hs : (specB ((Utf8.decode ta pos).1 : Int) != o)
              · have HE := Lib.hid (dressF_same (f := f) hlt2 h39 hs)
                have hso : specB ((Utf8.decode ta pos).1 : Int) = o := by simpa using hs
                rw [hso] at hBr HE
                clear hs hso
                cases o
                all_goals
                  go_wp2_with fail
                  refine (hBr _).out.mono ?_
                  rintro e w2 ⟨rfl, hk⟩
                  have HD3 := Lib.hid (fun x' hx => HD.out.step (x' := x') hlt2 hk hx (by have := HEL.out; omega) HE.out)
                  clear hk hBr
                  go_wp2
                  go_roundg f
                  case measure => omega
                  case rel => exact ⟨_, _, _, rfl, rfl, HD3.out _ (by rw [cat_list, HEI.out])⟩
              · have HE := Lib.hid (dressF_turn (f := f) hlt2 h39 hs)
                generalize hsb : specB ((Utf8.decode ta pos).1 : Int) = sb at *
                obtain rfl : o = !sb := bne_turn _ _ hs
                clear hs hsb
                cases sb
                all_goals
                  go_wp2_with fail
                  refine (hBr _).out.mono ?_
                  rintro e w2 ⟨rfl, hk⟩
                  have HD3 := Lib.hid (fun x' hx => HD.out.step (x' := x') hlt2 hk hx (by have := HEL.out; simp only [List.length_append, List.length_cons, List.length_nil]; omega) HE.out)
                  clear hk hBr
                  go_wp2
                  go_roundg f
                  case measure => omega
                  case rel => exact ⟨_, _, _, rfl, rfl, HD3.out _ (by rw [cat_list, cat_list, HEI.out, List.append_assoc])⟩
            · have HE := Lib.hid (dressF_apos (f := f) (o := o) hlt2 h39)
              have hp := (HPl y (by omega)).out
              have HD3 := Lib.hid (fun x' hx => HD.out.step (x' := x') hlt2 (Keep.refl _ _) hx (by show 2 ≤ 6; omega) HE.out)
              clear HPl
              go_wp2
              go_roundg f
              case measure => omega
              case rel => exact ⟨_, _, _, rfl, rfl, HD3.out _ (by rw [cat_list])⟩
          · have hnx := fun ty => Lib.run_next_end_at (P := Tryd.prog) wr g ta pos ty hit hlt2
            have hp := (HPl y (by omega)).out
            have hKo : Keep [] w wr := HKn2.out.trans HD.out.kp (fun z hz => .inr (by simp at hz; subst hz; have := HKn2.out.size; omega))
            have HKo := Lib.hid hKo
            have hyx : y.size ≤ x.size + 6 * ta.size := by have := HD.out.le; have h7 := HD.out.len; rw [← size_list] at h7; omega
            clear hit HPl hKo
            cases o
            · have HX : Hid (y.data.toList = x.data.toList ++ dressL ta) := by unfold Hid; have := HD.out.eq; rw [dressF_end hlt2] at this; simpa using this
              go_wp2
              go_roundg (ok - 1)
              case measure => have := Hm.out; omega
              case rel => exact ⟨m + 1, y, by have := Hm.out; omega, by go_num, rfl, by omega, by rw [HX.out]; exact HE2.out, HKo.out⟩
            · have HX : Hid (y.data.toList ++ [39] = x.data.toList ++ dressL ta) := by unfold Hid; have := HD.out.eq; rw [dressF_end hlt2] at this; simpa using this
              go_wp2
              go_roundg (ok - 1)
              case measure => have := Hm.out; omega
              case rel => exact ⟨m + 1, _, by have := Hm.out; omega, by go_num, rfl, by rw [size_list, cat_list, List.length_append, ← size_list]; show y.size + 1 ≤ _; omega, by rw [cat_list]; exact (congrArg (· ++ (l.drop (m + 1)).flatMap (pieceL dressL)) HX.out).trans HE2.out, HKo.out⟩
      by_cases hk2 : ka = 2
      · subst hk2
        have HE2 : Hid (x.data.toList ++ [37] ++ (l.drop (m + 1)).flatMap (pieceL dressL) = l.flatMap (pieceL dressL)) := HE.out
        have hp := (HPl x (by omega)).out
        clear HE HKa HCa HTa HPl
        go_wp2
        go_roundg (ok - 1)
        case measure => have := Hm.out; omega
        case rel => exact ⟨m + 1, _, by have := Hm.out; omega, by go_num, rfl, by rw [size_list, cat_list, List.length_append, ← size_list]; show x.size + 1 ≤ _; omega, by rw [cat_list]; exact HE2.out, HKn.out⟩
      by_cases hk3 : ka = 3
      · subst hk3
        have HE2 : Hid (x.data.toList ++ [45] ++ (l.drop (m + 1)).flatMap (pieceL dressL) = l.flatMap (pieceL dressL)) := HE.out
        have hp := (HPl x (by omega)).out
        clear HE HKa HCa HTa HPl
        go_wp2
        go_roundg (ok - 1)
        case measure => have := Hm.out; omega
        case rel => exact ⟨m + 1, _, by have := Hm.out; omega, by go_num, rfl, by rw [size_list, cat_list, List.length_append, ← size_list]; show x.size + 1 ≤ _; omega, by rw [cat_list]; exact HE2.out, HKn.out⟩
      by_cases hk4 : ka = 4
      · subst hk4
        have HE2 : Hid (x.data.toList ++ [43] ++ (l.drop (m + 1)).flatMap (pieceL dressL) = l.flatMap (pieceL dressL)) := HE.out
        have hp := (HPl x (by omega)).out
        clear HE HKa HCa HTa HPl
        go_wp2
        go_roundg (ok - 1)
        case measure => have := Hm.out; omega
        case rel => exact ⟨m + 1, _, by have := Hm.out; omega, by go_num, rfl, by rw [size_list, cat_list, List.length_append, ← size_list]; show x.size + 1 ≤ _; omega, by rw [cat_list]; exact HE2.out, HKn.out⟩
      have hk5 : ka = 5 := by have := HKa.out; omega
      subst hk5
      obtain ⟨hc0, hc3⟩ := HCa.out rfl
      obtain ⟨c, rfl⟩ := Int.eq_ofNat_of_zero_le hc0
      have HE2 : Hid (x.data.toList ++ Lib.repeatL [194, 164] c ++ (l.drop (m + 1)).flatMap (pieceL dressL) = l.flatMap (pieceL dressL)) := HE.out
      have hrl : (Lib.repeatL [194, 164] c).length ≤ 6 := by rw [Lib.repeatL_length]; simp; omega
      have HR : ∀ W, Hid (Calls Tryd.prog 48 #[.string ⟨#[194, 164]⟩, .int .i64 c] W fun e w' => e = .returned (.string ⟨(Lib.repeatL [194, 164] c).toArray⟩) ∧ Below W.heap.size W w') := fun W => Tryd.strings_Repeat ⟨#[194, 164]⟩ c W (by omega) (by show 2 * c ≤ _; omega)
      generalize Lib.repeatL [194, 164] c = rl at *
      have hsz : (⟨rl.toArray⟩ : ByteArray).size ≤ 6 := by simpa [ByteArray.size] using hrl
      have hp : ∀ W, (Op.stringOp .add x ⟨rl.toArray⟩).run Tryd.prog W = .ok (.string (x ++ ⟨rl.toArray⟩)) W := fun W => (HPl x (by omega)).out W _ (by omega)
      clear HE HKa HCa HTa hk1 hk2 hk3 hk4 HPl
      go_wp2_with (go_at_call 48; refine (HR _).out.mono ?_; rintro e w1 ⟨rfl, hb1⟩)
      go_roundg (ok - 1)
      case measure => have := Hm.out; omega
      case rel => exact ⟨m + 1, _, by have := Hm.out; omega, by go_num, rfl, by rw [size_list, cat_list, List.length_append, ← size_list]; show x.size + rl.length ≤ _; omega, by rw [cat_list]; exact HE2.out, HKn.out.nil (Keep.of_below hb1)⟩
    · have HE : Hid (x = ⟨(l.flatMap (pieceL dressL)).toArray⟩) := by
        have hnil : l.drop m = [] := List.drop_eq_nil_of_le (by rw [Hn.out]; omega)
        have := HF.out
        rw [hnil, List.flatMap_nil, List.append_nil] at this
        exact list_string _ _ this
      clear HF HPl
      go_wp2
      go_ret
      exact ⟨by rw [← HE.out]; rfl, HKW.out⟩
end Go.Proofs.YtkkglaglnfebjaaDoor
