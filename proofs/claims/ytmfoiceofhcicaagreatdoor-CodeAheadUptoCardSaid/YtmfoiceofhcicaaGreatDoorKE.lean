/- Walks: code.texts. -/
import Derived.Test.YtmfoiceofhcicaaGreatDoorKM
namespace Go.Proofs.YtmfoiceofhcicaaGreatDoor
open Go.RowKit

theorem textL_take {T : List PT → List ByteArray} {l : List PT} {k : Nat} {p : PT} (h : l[k]? = some p) : textL T (l.take (k + 1)) = textL T (l.take k) ++ partT T p := by
  rw [take_snoc' h, textL_append]
  simp [textL]
theorem caseT_take {T : List PT → List ByteArray} {l : List CT} {k : Nat} {c : CT} (h : l[k]? = some c) : caseT T (l.take (k + 1)) = caseT T (l.take k) ++ (c.1 :: T c.2) := by
  rw [take_snoc' h, caseT_append]
  simp [caseT]
theorem bulkL_takeS {K : List PT → Nat} {l : List PT} {k : Nat} {p : PT} (h : l[k]? = some p) : bulkL K (l.take (k + 1)) = bulkL K (l.take k) + (1 + p.tx.size + p.nm.size + p.ty.size + p.st.size + bulkC K p.cs) := by
  rw [take_snoc' h]
  generalize l.take k = a
  induction a with
  | nil => simp [bulkL]
  | cons x a ih => simp only [List.cons_append, bulkL, ih]; omega
theorem bulkC_takeS {K : List PT → Nat} {l : List CT} {k : Nat} {c : CT} (h : l[k]? = some c) : bulkC K (l.take (k + 1)) = bulkC K (l.take k) + (1 + c.1.size + K c.2) := by
  rw [take_snoc' h]
  generalize l.take k = a
  induction a with
  | nil => simp [bulkC]
  | cons x a ih => simp only [List.cons_append, bulkC, ih]; omega
theorem bulkL_take_le (K : List PT → Nat) : ∀ (l : List PT) (k : Nat), bulkL K (l.take k) ≤ bulkL K l
  | [], k => by simp
  | p :: l, 0 => Nat.zero_le _
  | p :: l, k + 1 => by have := bulkL_take_le K l k; simp only [List.take_succ_cons, bulkL]; omega
theorem bulkC_take_le (K : List PT → Nat) : ∀ (l : List CT) (k : Nat), bulkC K (l.take k) ≤ bulkC K l
  | [], k => by simp
  | p :: l, 0 => Nat.zero_le _
  | p :: l, k + 1 => by have := bulkC_take_le K l k; simp only [List.take_succ_cons, bulkC]; omega

theorem lies_openS {n : Nat} {S : Nat → Prop} {w : World} {v : Value} {l : List PT} (h : Lies (n + 1) S w v l) :
    ∃ A cap, v = .slice A l.length cap ∧ l.length ≤ maxLen ∧ ∀ (i : Nat) (p : PT), l[i]? = some p → ∃ b o cv, A = some ⟨b, o, none⟩ ∧ S b ∧ b < w.heap.size ∧ PAt w b (o + i * 7) p cv ∧ LiesC n S w cv p.cs := by
  obtain ⟨A, cap, rfl, hm, hat⟩ := lies_open h
  refine ⟨A, cap, rfl, hm, fun i p hp => ?_⟩
  obtain ⟨b, o, cv, rfl, hb, hP, hC⟩ := hat i p hp
  refine ⟨b, o, cv, rfl, ?_, hb, hP, hC⟩
  obtain ⟨vs, _, ⟨A', c', he, _, _, h3⟩, _⟩ := h
  have hi := (List.getElem?_eq_some_iff.1 hp).1
  obtain ⟨b', o', e1, hS, _⟩ := h3 (by omega)
  injection he with e2
  rw [e1] at e2
  injection e2 with e2
  injection e2 with e2
  rw [e2]
  exact hS
theorem liesC_openS {n : Nat} {S : Nat → Prop} {w : World} {v : Value} {cs : List CT} (h : LiesC n S w v cs) :
    ∃ A cap, v = .slice A cs.length cap ∧ cs.length ≤ maxLen ∧ ∀ (i : Nat) (c : CT), cs[i]? = some c → ∃ b o pv, A = some ⟨b, o, none⟩ ∧ S b ∧ b < w.heap.size ∧ w.cell? ⟨b, o + i * 2, none⟩ = some (.string c.1) ∧ w.cell? ⟨b, o + i * 2 + 1, none⟩ = some pv ∧ Lies n S w pv c.2 := by
  obtain ⟨A, cap, rfl, hm, hat⟩ := liesC_open h
  refine ⟨A, cap, rfl, hm, fun i c hp => ?_⟩
  obtain ⟨b, o, cv, rfl, hb, h1, h2, hC⟩ := hat i c hp
  refine ⟨b, o, cv, rfl, ?_, hb, h1, h2, hC⟩
  obtain ⟨vs, _, ⟨A', c', he, _, _, h3⟩, _⟩ := h
  have hi := (List.getElem?_eq_some_iff.1 hp).1
  obtain ⟨b', o', e1, hS, _⟩ := h3 (by omega)
  injection he with e2
  rw [e1] at e2
  injection e2 with e2
  injection e2 with e2
  rw [e2]
  exact hS
theorem PAt.keepB {w w' : World} {b o : Nat} {p : PT} {cv : Value} {bs : List Nat} (h : PAt w b o p cv) (hk : Keep bs w w') (hb : b < w.heap.size) (hn : b ∉ bs) : PAt w' b o p cv :=
  ⟨(hk.cell hb hn).trans h.1, (hk.cell hb hn).trans h.2.1, (hk.cell hb hn).trans h.2.2.1, (hk.cell hb hn).trans h.2.2.2.1, (hk.cell hb hn).trans h.2.2.2.2.1, (hk.cell hb hn).trans h.2.2.2.2.2.1, (hk.cell hb hn).trans h.2.2.2.2.2.2⟩
theorem empT (s : ByteArray) : s.toList.isEmpty = noB s := by
  unfold noB
  by_cases h : s.size = 0
  · rw [empty_iff.2 h, decide_eq_true h]
  · rw [not_empty h, decide_eq_false h]
theorem idx_two0 (W : World) (a b : Value) : (Instr.index 127 (.agg #[a, b]) (.int .i64 0)).run Tryz.prog W = .ok a W := by
  simp [Instr.index, go_sem]
theorem idx_two1 (W : World) (a b : Value) : (Instr.index 127 (.agg #[a, b]) (.int .i64 1)).run Tryz.prog W = .ok b W := by
  simp [Instr.index, go_sem]
def twoT (p : PT) (m : Nat) : List ByteArray := if m = 0 then [] else if m = 1 then optT p.ty else optT p.ty ++ optT p.st
def TxC (n : Nat) : Prop := ∀ (l : List PT) (S : Nat → Prop) (v : Value) (b m : Nat) (D : MapD) (w : World), Lies n S w v l → ¬ S b → OwnMap w b m D → m + 3 * bulkF n l ≤ 1000000000 →
  Calls Tryz.prog 46 #[.map (some b), v] w fun e w' => e = .returned (.tuple #[]) ∧ OwnMap w' b (m + 3 * bulkF n l) (zeroD D (textF n l)) ∧ Keep [b] w w'
set_option maxRecDepth 100000 in
set_option maxHeartbeats 4000000 in
theorem texts_step (n : Nat) (ih : TxC n) : TxC (n + 1) := by
  intro l S v b m0 D w h hS hO hb
  obtain ⟨A, cap, rfl, hml, hat⟩ := lies_openS h
  have HAT := Lib.hid hat
  have HIH := Lib.hid ih
  have HO0 := Lib.hid hO
  have HSB := Lib.hid hS
  have hll : l.length ≤ 1000000000 := by have := bulkL_len (bulkF n) l; simp only [bulkF] at hb; omega
  have HB : Hid (m0 + 3 * bulkL (bulkF n) l ≤ 1000000000) := hb
  clear h hat hml hb hO hS ih
  go_enter Tryz.func46, Tryz.ntmps46
  go_wp2
  go_loopw [12] (fun i wr => ∃ k : Nat, k ≤ l.length ∧ i = .int .i64 k ∧ OwnMap wr b (m0 + 3 * bulkL (bulkF n) (l.take k)) (zeroD D (textL (textF n) (l.take k))) ∧ Keep [b] w wr) (fun i _ => l.length - (intOf i).toNat)
  case atStart => exact ⟨0, Nat.zero_le _, rfl, HO0.out, Keep.refl _ _⟩
  case round =>
    obtain ⟨k, hk, rfl, hO, hK⟩ := hrel
    have HK := Lib.hid hK
    have HO := Lib.hid hO
    clear hK hO
    by_cases hlt : k < l.length
    · obtain ⟨p, hp⟩ : ∃ p, l[k]? = some p := ⟨_, List.getElem?_eq_getElem hlt⟩
      obtain ⟨bb, o, cv, rfl, hSb, hbb, hP, hC⟩ := HAT.out k p hp
      have hnb : bb ≠ b := fun e => HSB.out (e ▸ hSb)
      obtain ⟨a0, a1, a2, a3, a4, a5, a6⟩ := hP.keepB HK.out hbb (by simpa using hnb)
      have hC1 := hC.keep HK.out (fun x hx => by simp at hx; subst hx; exact HSB.out)
      obtain ⟨Ac, cc, rfl, _, hcat⟩ := liesC_openS hC1
      have HCAT := Lib.hid hcat
      have HS1 : Hid (zeroD D (textL (textF n) (l.take (k + 1))) = zeroD (zeroD D (textL (textF n) (l.take k))) (partT (textF n) p)) := by unfold Hid; rw [textL_take hp, zeroD_append]
      have hbt := bulkL_takeS (K := bulkF n) hp
      have hbe := bulkL_take_le (bulkF n) l (k + 1)
      have hBB := HB.out
      have HBT := Lib.hid hbt
      have hsz : bulkL (bulkF n) (l.take k) + (1 + p.tx.size + p.nm.size + p.ty.size + p.st.size + bulkC (bulkF n) p.cs) ≤ bulkL (bulkF n) l := by omega
      have hbr := Nat.lt_of_lt_of_le hbb HK.out.size
      have hbx := HO.out.lt
      obtain ⟨D1, hD1⟩ : ∃ D1, zeroD D (textL (textF n) (l.take k)) = D1 := ⟨_, rfl⟩
      obtain ⟨b1, hb1⟩ : ∃ b1, bulkL (bulkF n) (l.take k) = b1 := ⟨_, rfl⟩
      rw [hD1, hb1] at HO
      rw [hD1] at HS1
      rw [hb1] at HBT hsz
      clear hP hC hC1 hcat hD1 hb1 hbt hbe hp
      go_upto_region 11 with fail
      have hX : Blk (wr.alloc (.cells #[.int .i64 p.k, .string p.tx, .string p.nm, .string p.ty, .string p.st, .int .i64 p.off, .slice Ac p.cs.length cc] 68)) wr.heap.size 68 #[.int .i64 p.k, .string p.tx, .string p.nm, .string p.ty, .string p.st, .int .i64 p.off, .slice Ac p.cs.length cc] := Blk.new _ _ _
      have hO1 := HO.out.alloc (.cells #[.int .i64 p.k, .string p.tx, .string p.nm, .string p.ty, .string p.st, .int .i64 p.off, .slice Ac p.cs.length cc] 68)
      have hK1 := HK.out.alloc (.cells #[.int .i64 p.k, .string p.tx, .string p.nm, .string p.ty, .string p.st, .int .i64 p.off, .slice Ac p.cs.length cc] 68)
      have hKr : Keep [b] wr (wr.alloc (.cells #[.int .i64 p.k, .string p.tx, .string p.nm, .string p.ty, .string p.st, .int .i64 p.off, .slice Ac p.cs.length cc] 68)) := (Keep.refl [b] wr).alloc _
      generalize wr.alloc (.cells #[.int .i64 p.k, .string p.tx, .string p.nm, .string p.ty, .string p.st, .int .i64 p.off, .slice Ac p.cs.length cc] 68) = W1 at *
      have hbw : b ≠ wr.heap.size := by omega
      obtain ⟨bx, hbxx⟩ : ∃ bx, wr.heap.size = bx := ⟨_, rfl⟩
      rw [hbxx] at hX hbw ⊢
      have HX := Lib.hid hX
      have HO1 := Lib.hid hO1
      have HK1 := Lib.hid hK1
      have HKR := Lib.hid hKr
      have x0 : W1.cell? ⟨bx, 0, none⟩ = some (.int .i64 p.k) := hX.cell_eq rfl
      have x1 : W1.cell? ⟨bx, 1, none⟩ = some (.string p.tx) := hX.cell_eq rfl
      have x2 : W1.cell? ⟨bx, 2, none⟩ = some (.string p.nm) := hX.cell_eq rfl
      have x3 : W1.cell? ⟨bx, 3, none⟩ = some (.string p.ty) := hX.cell_eq rfl
      have x4 : W1.cell? ⟨bx, 4, none⟩ = some (.string p.st) := hX.cell_eq rfl
      have x6 : W1.cell? ⟨bx, 6, none⟩ = some (.slice Ac p.cs.length cc) := hX.cell_eq rfl
      clear hX hO1 hK1 hKr a0 a1 a2 a3 a4 a5 a6 hbxx hbx
      by_cases h1 : p.k = 1
      · have k1 : (p.k == 1) = true := by simp [h1]
        have HP : Hid (partT (textF n) p = [p.tx]) := by unfold Hid partT; rw [if_pos h1]
        clear h1
        go_wp2_with (at_mapUpdate; refine wpList_put rfl _ _ _ rfl HO1.out rfl p.tx rfl 0 rfl (by omega) (by omega) (by omega) (by omega) ?_; intro w5 hO5 hk5)
        go_roundw
        case rel => exact ⟨k + 1, by omega, by go_num, by rw [HS1.out, HP.out, HBT.out]; exact hO5.le (by omega), HK1.out.same hk5⟩
        case measure => simp [intOf]; omega
      · have k1 : (p.k == 1) = false := by simp [h1]
        by_cases h3 : p.k = 3
        · have k3 : (p.k == 3) = true := by simp [h3]
          have HP : Hid (partT (textF n) p = p.nm :: (optT p.ty ++ optT p.st)) := by unfold Hid partT; rw [if_neg h1, if_neg (by omega), if_pos h3]
          clear h1 h3
          go_wp2_with (at_mapUpdate; refine wpList_put rfl _ _ _ rfl HO1.out rfl p.nm rfl 0 rfl (by omega) (by omega) (by omega) (by omega) ?_; intro w5 hO5 hk5; have HO5 := Lib.hid hO5; have y3 := (hk5.cell (p := ⟨bx, 3, none⟩) HX.out.lt (by simpa using hbw.symm)).trans x3; have y4 := (hk5.cell (p := ⟨bx, 4, none⟩) HX.out.lt (by simpa using hbw.symm)).trans x4; have HK5 := Lib.hid (HK1.out.same hk5); clear hO5 hk5 x0 x1 x2 x3 x4 x6)
          have i0 := fun W => idx_two0 W (.string p.ty) (.string p.st)
          have i1 := fun W => idx_two1 W (.string p.ty) (.string p.st)
          obtain ⟨D2, hD2⟩ : ∃ D2, putD D1 p.nm 0 = D2 := ⟨_, rfl⟩
          have HS3 : Hid (zeroD D1 (partT (textF n) p) = zeroD D2 (twoT p 2)) := by unfold Hid; rw [HP.out, ← hD2]; rfl
          rw [hD2] at HO5
          clear hD2
          go_loopw [51] (fun j wx => ∃ m : Nat, m ≤ 2 ∧ j = .int .i64 m ∧ OwnMap wx b (m0 + 3 * b1 + 1 + m) (zeroD D2 (twoT p m)) ∧ Keep [b] w wx) (fun j _ => 2 - (intOf j).toNat)
          case atStart => exact ⟨0, by omega, rfl, HO5.out, HK5.out⟩
          case round =>
            obtain ⟨m, hm, rfl, hO, hK⟩ := hrel
            have HO6 := Lib.hid hO
            have HK6 := Lib.hid hK
            clear hO hK
            have hm3 : m = 0 ∨ m = 1 ∨ m = 2 := by omega
            rcases hm3 with rfl | rfl | rfl
            · cases hn : noB p.ty with
              | true =>
                have e1 : p.ty.toList.isEmpty = true := by rw [empT, hn]
                have HT : Hid (twoT p 1 = twoT p 0) := by unfold Hid twoT optT; rw [hn]; rfl
                go_wp2_with fail
                go_roundw
                case rel => exact ⟨1, by omega, by go_num, by rw [HT.out]; exact HO6.out.le (by omega), HK6.out⟩
                case measure => simp [intOf]
              | false =>
                have e1 : p.ty.toList.isEmpty = false := by rw [empT, hn]
                have HT : Hid (twoT p 1 = twoT p 0 ++ [p.ty]) := by unfold Hid twoT optT; rw [hn]; rfl
                go_wp2_with (at_mapUpdate; refine wpList_put rfl _ _ _ rfl HO6.out rfl p.ty rfl 0 rfl (by omega) (by omega) (by omega) (by omega) ?_; intro w5 hO5 hk5)
                go_roundw
                case rel => exact ⟨1, by omega, by go_num, by rw [HT.out, zeroD_append]; exact hO5, HK6.out.same hk5⟩
                case measure => simp [intOf]
            · cases hn : noB p.st with
              | true =>
                have e1 : p.st.toList.isEmpty = true := by rw [empT, hn]
                have HT : Hid (twoT p 2 = twoT p 1) := by unfold Hid twoT; rw [if_neg (by decide), if_neg (by decide), if_neg (by decide), if_pos rfl, show optT p.st = [] by unfold optT; rw [hn]; rfl, List.append_nil]
                go_wp2_with fail
                go_roundw
                case rel => exact ⟨2, by omega, by go_num, by rw [HT.out]; exact HO6.out.le (by omega), HK6.out⟩
                case measure => simp [intOf]
              | false =>
                have e1 : p.st.toList.isEmpty = false := by rw [empT, hn]
                have HT : Hid (twoT p 2 = twoT p 1 ++ [p.st]) := by unfold Hid twoT; rw [if_neg (by decide), if_neg (by decide), if_neg (by decide), if_pos rfl, show optT p.st = [p.st] by unfold optT; rw [hn]; rfl]
                go_wp2_with (at_mapUpdate; refine wpList_put rfl _ _ _ rfl HO6.out rfl p.st rfl 0 rfl (by omega) (by omega) (by omega) (by omega) ?_; intro w5 hO5 hk5)
                go_roundw
                case rel => exact ⟨2, by omega, by go_num, by rw [HT.out, zeroD_append]; exact hO5, HK6.out.same hk5⟩
                case measure => simp [intOf]
            · go_wp2
              go_roundw
              case rel => exact ⟨k + 1, by omega, by go_num, by rw [HS1.out, HS3.out, HBT.out]; exact HO6.out.le (by omega), HK6.out⟩
              case measure => simp [intOf]; omega
        · have k3 : (p.k == 3) = false := by simp [h3]
          by_cases h2 : p.k = 2
          · have k2 : (p.k == 2) = true := by simp [h2]
            have HP : Hid (partT (textF n) p = []) := by unfold Hid partT; rw [if_neg h1, if_pos h2]
            clear h1 h2 h3
            go_wp2_with fail
            go_roundw
            case rel => exact ⟨k + 1, by omega, by go_num, by rw [HS1.out, HP.out, HBT.out]; exact HO1.out.le (by omega), HK1.out⟩
            case measure => simp [intOf]; omega
          · have k2 : (p.k == 2) = false := by simp [h2]
            have HP : Hid (partT (textF n) p = p.nm :: caseT (textF n) p.cs) := by unfold Hid partT; rw [if_neg h1, if_neg h2, if_neg h3]
            clear h1 h2 h3
            go_wp2_with (at_mapUpdate; refine wpList_put rfl _ _ _ rfl HO1.out rfl p.nm rfl 0 rfl (by omega) (by omega) (by omega) (by omega) ?_; intro w5 hO5 hk5; have HO5 := Lib.hid hO5; have y6 := (hk5.cell (p := ⟨bx, 6, none⟩) HX.out.lt (by simpa using hbw.symm)).trans x6; have HK5 := Lib.hid (HK1.out.same hk5); have HKR5 := Lib.hid (HKR.out.same hk5); clear hO5 hk5 x0 x1 x2 x3 x4 x6)
            obtain ⟨D2, hD2⟩ : ∃ D2, putD D1 p.nm 0 = D2 := ⟨_, rfl⟩
            have HS3 : Hid (zeroD D1 (partT (textF n) p) = zeroD D2 (caseT (textF n) p.cs)) := by unfold Hid; rw [HP.out, ← hD2]; rfl
            rw [hD2] at HO5
            clear hD2
            have hcl : p.cs.length ≤ 1000000000 := by have := bulkC_len (bulkF n) p.cs; omega
            go_loopw [24] (fun j wx => ∃ m : Nat, m ≤ p.cs.length ∧ j = .int .i64 m ∧ OwnMap wx b (m0 + 3 * b1 + 1 + 3 * bulkC (bulkF n) (p.cs.take m)) (zeroD D2 (caseT (textF n) (p.cs.take m))) ∧ Keep [b] w5 wx) (fun j _ => p.cs.length - (intOf j).toNat)
            case atStart => exact ⟨0, by omega, rfl, HO5.out, Keep.refl _ _⟩
            case round =>
              obtain ⟨m, hm, rfl, hO, hK⟩ := hrel
              have HO6 := Lib.hid hO
              have HK6 := Lib.hid hK
              clear hO hK
              by_cases hlt2 : m < p.cs.length
              · obtain ⟨c, hc⟩ : ∃ c, p.cs[m]? = some c := ⟨_, List.getElem?_eq_getElem hlt2⟩
                obtain ⟨b2, o2, pv, rfl, hSb2, hb2, e1, e2, hL⟩ := HCAT.out m c hc
                have hnb2 : b2 ≠ b := fun e => HSB.out (e ▸ hSb2)
                have HKX := Lib.hid (HKR5.out.same HK6.out)
                have e1' := (HKX.out.cell (p := ⟨b2, o2 + m * 2, none⟩) hb2 (by simpa using hnb2)).trans e1
                have e2' := (HKX.out.cell (p := ⟨b2, o2 + m * 2 + 1, none⟩) hb2 (by simpa using hnb2)).trans e2
                have hLX := hL.keep HKX.out (fun x hx => by simp at hx; subst hx; exact HSB.out)
                obtain ⟨Ap, mp, kp, rfl⟩ := hL.form
                have HLX := Lib.hid hLX
                have hbt2 := bulkC_takeS (K := bulkF n) hc
                have hbe2 := bulkC_take_le (bulkF n) p.cs (m + 1)
                have HCT : Hid (zeroD D2 (caseT (textF n) (p.cs.take (m + 1))) = zeroD (putD (zeroD D2 (caseT (textF n) (p.cs.take m))) c.1 0) (textF n c.2)) := by unfold Hid; rw [caseT_take hc, zeroD_append]; rfl
                have HBT2 := Lib.hid hbt2
                have hbx2 := HO6.out.lt
                have hbr2 := Nat.lt_of_lt_of_le hb2 HKX.out.size
                rw [hbt2] at hbe2
                obtain ⟨D3, hD3⟩ : ∃ D3, zeroD D2 (caseT (textF n) (p.cs.take m)) = D3 := ⟨_, rfl⟩
                obtain ⟨b3, hb3⟩ : ∃ b3, bulkC (bulkF n) (p.cs.take m) = b3 := ⟨_, rfl⟩
                rw [hD3, hb3] at HO6
                rw [hD3] at HCT
                rw [hb3] at HBT2 hbe2
                clear hLX hL e1 e2 hc hbt2 hD3 hb3
                have hbw2 : b ≠ wr.heap.size := by omega
                go_wp2_with (first
                  | (at_mapUpdate; refine wpList_put rfl _ _ _ rfl (HO6.out.alloc _) rfl c.1 rfl 0 rfl (by omega) (by omega) (by omega) (by omega) ?_; intro w6 hO6 hk6; have HO7 := Lib.hid hO6; have HK7 := Lib.hid hk6; have z1 : w6.cell? ⟨wr.heap.size, 1, none⟩ = some (.slice Ap mp kp) := (hk6.cell (p := ⟨wr.heap.size, 1, none⟩) (by simp) (by simpa using hbw2.symm)).trans (Blk.cell_eq (Blk.new wr 70 #[.string c.1, .slice Ap mp kp]) rfl); clear hO6 hk6)
                  | (go_at_call 46; refine (HIH.out c.2 S _ b (m0 + 3 * b1 + 1 + 3 * b3 + 1) (putD D3 c.1 0) _ ((HLX.out.keep (bs := []) ((Keep.refl [] wr).alloc _) (by simp)).keep HK7.out (fun x hx => by simp at hx; subst hx; exact HSB.out)) HSB.out HO7.out (by omega)).mono ?_; rintro e w8 ⟨rfl, hO8, hk8⟩; have HO8 := Lib.hid hO8; have HK8 := Lib.hid (((HK6.out.alloc _).same HK7.out).same hk8); clear hO8 hk8))
                go_roundw
                case rel => exact ⟨m + 1, by omega, by go_num, by rw [HCT.out, HBT2.out]; exact HO8.out.le (by omega), HK8.out⟩
                case measure => simp [intOf]; omega
              · obtain rfl : m = p.cs.length := by omega
                rw [List.take_length] at HO6
                go_wp2
                go_roundw
                case rel => exact ⟨k + 1, by omega, by go_num, by rw [HS1.out, HS3.out, HBT.out]; exact HO6.out.le (by omega), HK5.out.same HK6.out⟩
                case measure => simp [intOf]; omega
    · obtain rfl : k = l.length := by omega
      go_wp2
      go_end0
      rw [List.take_length] at HO
      exact ⟨rfl, HO.out, HK.out⟩
theorem texts_any : ∀ n, TxC n
  | 0 => fun _ _ _ _ _ _ _ h => h.elim
  | n + 1 => texts_step n (texts_any n)
end Go.Proofs.YtmfoiceofhcicaaGreatDoor
