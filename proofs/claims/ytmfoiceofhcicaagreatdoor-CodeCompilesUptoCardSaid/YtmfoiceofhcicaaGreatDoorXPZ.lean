/- Walks: write of messages. -/
import Derived.Test.YtmfoiceofhcicaaGreatDoorXKB
namespace Go.Proofs.YtmfoiceofhcicaaGreatDoor
open Go.RowKit

theorem emp'' (s : ByteArray) : s.toList.isEmpty = noB s := by
  unfold noB
  by_cases h : s.size = 0
  · rw [empty_iff.2 h, decide_eq_true h]
  · rw [not_empty h, decide_eq_false h]
theorem toArr (l : List UInt8) : (⟨l.toArray⟩ : ByteArray).data.toList = l := rfl
theorem toArr_size (l : List UInt8) : (⟨l.toArray⟩ : ByteArray).size = l.length := by show l.toArray.size = _; simp
theorem bw_string {b : Nat} {acc : List UInt8} {w : World} (s : ByteArray) (h : Bld b acc w) (hlen : acc.length + s.size ≤ 140737488355328) :
    Calls Tryz.prog 84 #[.pointer (some ⟨b, 0, none⟩), .string s] w fun e w' => e = .returned (.tuple #[.int .i64 s.size, .nilIface]) ∧ Bld b (acc ++ s.data.toList) w' ∧ BK2 b w w' :=
  (bld_string s h hlen).mono fun _ _ ⟨h1, h2, h3, h4⟩ => ⟨h1, h2, h3, h4⟩
theorem bw_byte {b : Nat} {acc : List UInt8} {w : World} (c : Int) (h0 : 0 ≤ c) (h1 : c < 256) (h : Bld b acc w) (hlen : acc.length + 1 ≤ 140737488355328) :
    Calls Tryz.prog 86 #[.pointer (some ⟨b, 0, none⟩), .int .u8 c] w fun e w' => e = .returned .nilIface ∧ Bld b (acc ++ [c.toNat.toUInt8]) w' ∧ BK2 b w w' :=
  (bld_byte c h0 h1 h hlen).mono fun _ _ ⟨h1, h2, h3, h4⟩ => ⟨h1, h2, h3, h4⟩
theorem add_run (a b : ByteArray) (h : a.size + b.size ≤ 9000000000) : ∃ c : ByteArray, c.size = a.size + b.size ∧ c.data.toList = a.data.toList ++ b.data.toList ∧ ∀ W, (Op.stringOp .add a b).run Tryz.prog W = .ok (.string c) W :=
  ⟨a ++ b, ByteArray.size_append, by simp, fun W => run_string_add_sum W _ _ (by omega)⟩
theorem caseW_append (V : List PT → List UInt8) : ∀ (b : Bool) (x y : List CT), caseW V b (x ++ y) = caseW V b x ++ caseW V (b || !x.isEmpty) y
  | b, [], y => by simp [caseW]
  | b, c :: x, y => by simp [caseW, caseW_append V true x y]
theorem caseW_snoc (V : List PT → List UInt8) (cs : List CT) (j : Nat) (c : CT) (h : cs[j]? = some c) :
    caseW V false (cs.take (j + 1)) = caseW V false (cs.take j) ++ (if j = 0 then [] else [32]) ++ c.1.data.toList ++ [123] ++ V c.2 ++ [125] := by
  rw [take_snoc' h, caseW_append]
  have hj := (List.getElem?_eq_some_iff.1 h).1
  by_cases h0 : j = 0
  · subst h0; simp [caseW]
  · have : (cs.take j).isEmpty = false := by cases cs with | nil => simp at hj | cons x xs => cases j with | zero => exact absurd rfl h0 | succ j => rfl
    rw [this, if_neg h0]; simp [caseW]
theorem bulkL_append (K : List PT → Nat) : ∀ (a b : List PT), bulkL K (a ++ b) = bulkL K a + bulkL K b
  | [], b => by simp [bulkL]
  | p :: a, b => by simp only [List.cons_append, bulkL, bulkL_append K a b]; omega
theorem bulkC_append (K : List PT → Nat) : ∀ (a b : List CT), bulkC K (a ++ b) = bulkC K a + bulkC K b
  | [], b => by simp [bulkC]
  | p :: a, b => by simp only [List.cons_append, bulkC, bulkC_append K a b]; omega
theorem caseW_lenO (n : Nat) (g : Bool) : ∀ (b : Bool) (cs : List CT), (∀ c ∈ cs, allO offOK n c.2) → (caseW (fun m => writeF n m g) b cs).length ≤ 100 * bulkC (bulkF n) cs
  | _, [], _ => by simp [caseW]
  | b, c :: cs, hc => by
    have q1 := caseW_lenO n g true cs (fun d hd => hc d (List.mem_cons_of_mem _ hd))
    have q2 := allO_len n c.2 g (hc c (List.mem_cons_self ..))
    have q3 := size_len c.1
    simp only [caseW, bulkC, List.length_append, List.length_singleton]
    cases b <;> simp <;> omega
theorem caseW_take_len (n : Nat) (g : Bool) (cs : List CT) (j : Nat) (c : CT) (h : cs[j]? = some c) (ho : ∀ c ∈ cs, allO offOK n c.2) :
    (caseW (fun m => writeF n m g) false (cs.take j)).length + 100 * (1 + c.1.size + bulkF n c.2) ≤ 100 * bulkC (bulkF n) cs := by
  have h1 := caseW_lenO n g false (cs.take j) (fun d hd => ho d (List.mem_of_mem_take hd))
  have h2 : bulkC (bulkF n) cs = bulkC (bulkF n) (cs.take j) + bulkC (bulkF n) (cs.drop j) := by rw [← bulkC_append, List.take_append_drop]
  have h3 := bulkC_at (bulkF n) (cs.drop j) 0 c (by simpa using h)
  omega
theorem idx_word0 (W : World) (a b c : Value) : (Instr.index 151 (.agg #[a, b, c]) (.int .i64 0)).run Tryz.prog W = .ok a W := by
  simp [Instr.index, go_sem]
theorem idx_word1 (W : World) (a b c : Value) : (Instr.index 151 (.agg #[a, b, c]) (.int .i64 1)).run Tryz.prog W = .ok b W := by
  simp [Instr.index, go_sem]
theorem idx_word2 (W : World) (a b c : Value) : (Instr.index 151 (.agg #[a, b, c]) (.int .i64 2)).run Tryz.prog W = .ok c W := by
  simp [Instr.index, go_sem]
theorem case_cells {w : World} {b : Nat} {k : ByteArray} {v : Value} (h : Blk w b 70 #[.string k, v]) :
    w.cell? ⟨b, 0, none⟩ = some (.string k) ∧ w.cell? ⟨b, 1, none⟩ = some v ∧ ∀ i, w.frozen? ⟨b, i, none⟩ = false :=
  ⟨h.cell_eq rfl, h.cell_eq rfl, h.frozen⟩
set_option maxRecDepth 100000 in
set_option maxHeartbeats 8000000 in
/-- write. -/
theorem write_step (n : Nat) (hW : WriteC n) : WriteC (n + 1) := by
  intro l h S v b acc B w hE hBb hh hS hB ho hb hacc
  obtain ⟨A, cap, rfl, _, _⟩ := lies_open hh
  have HL := Lib.hid hh
  have HIH := Lib.hid hW
  have HE := Lib.hid hE
  have HS := Lib.hid hS
  have HB := Lib.hid hB
  have HO := Lib.hid ho
  have hbL : bulkL (bulkF n) l ≤ 1000000000 := hb
  have hll : l.length ≤ 1000000000 := by have := bulkL_len (bulkF n) l; omega
  have hwl := allO_len (n + 1) l h ho
  have hbf : bulkF (n + 1) l = bulkL (bulkF n) l := rfl
  have hlb := hB.lt
  obtain ⟨out, hout⟩ : ∃ out, writeF (n + 1) l h = out := ⟨_, rfl⟩
  have HOUT : Hid (writeL (writeF n) h l = out) := hout
  rw [hout] at hwl ⊢
  clear hh hE hS hB ho hb hout hW
  go_enter Tryz.func55, Tryz.ntmps55
  go_wp2
  go_loopw [13] (fun i wr => ∃ k : Nat, k ≤ l.length ∧ i = .int .i64 k ∧ Bld b (acc ++ writeL (writeF n) h (l.take k)) wr ∧ BK2 b w wr) (fun i _ => l.length - (intOf i).toNat)
  case atStart => exact ⟨0, Nat.zero_le _, rfl, by simpa [writeL] using HB.out, BK2.refl _ _⟩
  case round =>
    obtain ⟨k, hk, rfl, hB, hK⟩ := hrel
    have HBr := Lib.hid hB
    have HK := Lib.hid hK
    clear hB hK
    by_cases hlt : k < l.length
    · obtain ⟨p, hp⟩ : ∃ p, l[k]? = some p := ⟨_, List.getElem?_eq_getElem hlt⟩
      obtain ⟨A2, cap2, he, _, hat⟩ := lies_open (HL.out.below HK.out.below HS.out)
      injection he with he1 he2 he3
      subst he1; subst he3
      obtain ⟨b1, o1, cv, rfl, hb1, hP, hC⟩ := hat k p hp
      obtain ⟨a0, a1, a2, a3, a4, a5, a6⟩ := hP
      obtain ⟨Ac, cc, rfl⟩ := hC.formL
      have hpm : p ∈ l := List.mem_of_getElem? hp
      have hop := (HO.out p hpm).1
      have HOC := Lib.hid (HO.out p hpm).2
      have hbk := bulkL_at (bulkF n) l k p hp
      have hwt : writeL (writeF n) h (l.take (k + 1)) = writeL (writeF n) h (l.take k) ++ partW (writeF n) h p := by rw [take_snoc' hp, writeL_append]; simp [writeL]
      have hwd : writeL (writeF n) h (l.take (k + 1)) ++ writeL (writeF n) h (l.drop (k + 1)) = out := by rw [← writeL_append, List.take_append_drop]; exact HOUT.out
      have hlen : (writeL (writeF n) h (l.take k)).length + (partW (writeF n) h p).length ≤ 100 * bulkL (bulkF n) l := by
        have := congrArg List.length hwd
        rw [hwt] at this
        simp only [List.length_append] at this
        omega
      have HWT := Lib.hid hwt
      have HCL := Lib.hid hC
      have hcl : p.cs.length ≤ 1000000000 := by have := bulkC_len (bulkF n) p.cs; omega
      have hbr := HBr.out.lt
      have hroom : acc.length + (writeL (writeF n) h (l.take k)).length + 100 * (1 + p.tx.size + p.nm.size + p.ty.size + p.st.size + bulkC (bulkF n) p.cs) ≤ 100000000000 := by
        have h1 := allO_len (n + 1) (l.take k) h (fun q hq => HO.out q (List.mem_of_mem_take hq))
        have h2 : bulkL (bulkF n) l = bulkL (bulkF n) (l.take k) + bulkL (bulkF n) (l.drop k) := by rw [← bulkL_append, List.take_append_drop]
        have h3 := bulkL_at (bulkF n) (l.drop k) 0 p (by simpa using hp)
        have h4 : (writeF (n + 1) (l.take k) h).length = (writeL (writeF n) h (l.take k)).length := rfl
        have h5 : bulkF (n + 1) (l.take k) = bulkL (bulkF n) (l.take k) := rfl
        omega
      have haq : (acc ++ writeL (writeF n) h (l.take k)).length = acc.length + (writeL (writeF n) h (l.take k)).length := List.length_append
      generalize hac : acc ++ writeL (writeF n) h (l.take k) = ac at *
      have hacl : ac.length + (partW (writeF n) h p).length ≤ 100000000000 := by rw [← hac, List.length_append]; omega
      have HAC := Lib.hid hac
      clear hac hat hC hp hpm hwt hwd
      have HB1 := Lib.hid (HBr.out.alloc (.cells #[.int .i64 p.k, .string p.tx, .string p.nm, .string p.ty, .string p.st, .int .i64 p.off, .slice Ac p.cs.length cc] 68))
      have HX1 : Hid (Blk (wr.alloc (.cells #[.int .i64 p.k, .string p.tx, .string p.nm, .string p.ty, .string p.st, .int .i64 p.off, .slice Ac p.cs.length cc] 68)) wr.heap.size 68 (p.cells (.slice Ac p.cs.length cc)).toArray) := Blk.new _ _ _
      have HK1 := Lib.hid (HK.out.alloc (Nat.le_of_lt hbr) (.cells #[.int .i64 p.k, .string p.tx, .string p.nm, .string p.ty, .string p.st, .int .i64 p.off, .slice Ac p.cs.length cc] 68))
      have fin : ∀ W, Bld b (ac ++ partW (writeF n) h p) W → BK2 b w W → Bld b (acc ++ writeL (writeF n) h (l.take (k + 1))) W ∧ BK2 b w W := fun W h1 h2 => ⟨by rw [HWT.out, ← List.append_assoc, HAC.out]; exact h1, h2⟩
      have HFIN := Lib.hid fin
      clear fin
      by_cases hk1 : p.k = 1
      · have hpw : partW (writeF n) h p = dressL h p.tx.data.toList := by unfold partW; rw [if_pos hk1]
        rw [hpw] at hacl HFIN
        have HD := fun W (hW : EnvM B W) => Lib.hid (dress_any p.tx h W hW (by omega))
        have HEW : Hid (∀ W, BK2 b w W → EnvM B W) := fun W hW => HE.out.below (hW.below.mono hBb)
        have hds : (⟨(dressL h p.tx.data.toList).toArray⟩ : ByteArray).size = (dressL h p.tx.data.toList).length := toArr_size _
        rw [hk1] at a0 HB1 HX1 HK1
        clear hpw
        generalize hDD : (⟨(dressL h p.tx.data.toList).toArray⟩ : ByteArray) = D at *
        have hDl : D.data.toList = dressL h p.tx.data.toList := by rw [← hDD]
        have HDL := Lib.hid hDl
        clear hDD hDl
        go_wp2_with (first | (go_at_call 85; refine (HD _ (HEW.out _ HK1.out)).out.mono ?_; rintro e w2 ⟨rfl, hk2⟩; have HB2 := Lib.hid (HB1.out.keep_nil hk2); have HK2 := Lib.hid (HK1.out.keep hk2 (Nat.le_of_lt HB1.out.lt)); clear hk2) | (go_at_call 84; refine (bw_string D HB2.out (by omega)).mono ?_; rintro e w3 ⟨rfl, hB3, hb3⟩; have HB3 := Lib.hid hB3; have HK3 := Lib.hid (HK2.out.trans hb3); clear hB3 hb3))
        go_roundw
        case rel => exact ⟨k + 1, by omega, by go_num, HFIN.out _ (by rw [← HDL.out]; exact HB3.out) HK3.out⟩
        case measure => simp [intOf]; omega
      · have HEW : Hid (∀ W, BK2 b w W → EnvM B W) := fun W hW => HE.out.below (hW.below.mono hBb)
        have k1 : (p.k == 1) = false := by simpa using hk1
        by_cases hk2 : p.k = 2
        · have hpw : partW (writeF n) h p = [35] := by unfold partW; rw [if_neg hk1, if_pos hk2]
          rw [hpw] at hacl HFIN
          rw [hk2] at a0 HB1 HX1 HK1
          clear hpw k1
          have hl1 : ac.length + 1 ≤ 140737488355328 := by simp at hacl; omega
          go_wp2_with (go_at_call 86; refine (bw_byte 35 (by omega) (by omega) HB1.out hl1).mono ?_; rintro e w3 ⟨rfl, hB3, hb3⟩; have HB3 := Lib.hid hB3; have HK3 := Lib.hid (HK1.out.trans hb3); clear hB3 hb3)
          go_roundw
          case rel => exact ⟨k + 1, by omega, by go_num, HFIN.out _ HB3.out HK3.out⟩
          case measure => simp [intOf]; omega
        · have k2 : (p.k == 2) = false := by simpa using hk2
          by_cases hk3 : p.k = 3
          · have hpw : partW (writeF n) h p = [123] ++ p.nm.data.toList ++ (if noB p.ty then [] else [44, 32] ++ p.ty.data.toList) ++ (if noB p.st then [] else [44, 32] ++ p.st.data.toList) ++ [125] := by unfold partW; rw [if_neg hk1, if_neg hk2, if_pos hk3]
            rw [hpw] at hacl HFIN
            rw [hk3] at a0 HB1 HX1 HK1
            rw [← emp'', ← emp''] at hacl HFIN
            clear hpw k1 k2
            have q1 : (⟨#[123]⟩ : ByteArray).size = 1 := rfl
            have q2 : (⟨#[44, 32]⟩ : ByteArray).size = 2 := rfl
            have HA1 : ∀ W, (Op.stringOp .add ⟨#[123]⟩ p.nm).run Tryz.prog W = .ok (.string (⟨#[123]⟩ ++ p.nm)) W := fun W => run_string_add_sum W _ _ (by rw [q1]; omega)
            have HA2 : ∀ W, (Op.stringOp .add ⟨#[44, 32]⟩ p.ty).run Tryz.prog W = .ok (.string (⟨#[44, 32]⟩ ++ p.ty)) W := fun W => run_string_add_sum W _ _ (by rw [q2]; omega)
            have HA3 : ∀ W, (Op.stringOp .add ⟨#[44, 32]⟩ p.st).run Tryz.prog W = .ok (.string (⟨#[44, 32]⟩ ++ p.st)) W := fun W => run_string_add_sum W _ _ (by rw [q2]; omega)
            have z1 : ((⟨#[123]⟩ : ByteArray) ++ p.nm).size ≤ 2000000000 := by rw [ByteArray.size_append, q1]; omega
            have z2 : ((⟨#[44, 32]⟩ : ByteArray) ++ p.ty).size ≤ 2000000000 := by rw [ByteArray.size_append, q2]; omega
            have z3 : ((⟨#[44, 32]⟩ : ByteArray) ++ p.st).size ≤ 2000000000 := by rw [ByteArray.size_append, q2]; omega
            have g1 : ((⟨#[123]⟩ : ByteArray) ++ p.nm).data.toList = [123] ++ p.nm.data.toList := by simp
            have g2 : ((⟨#[44, 32]⟩ : ByteArray) ++ p.ty).data.toList = [44, 32] ++ p.ty.data.toList := by simp
            have g3 : ((⟨#[44, 32]⟩ : ByteArray) ++ p.st).data.toList = [44, 32] ++ p.st.data.toList := by simp
            rw [← g1, ← g2, ← g3] at HFIN
            generalize (⟨#[123]⟩ : ByteArray) ++ p.nm = X1 at *
            generalize (⟨#[44, 32]⟩ : ByteArray) ++ p.ty = X2 at *
            generalize (⟨#[44, 32]⟩ : ByteArray) ++ p.st = X3 at *
            have hac2 : ac.length ≤ 100000000000 := by omega
            clear hacl g1 g2 g3 q1 q2
            have hbx : wr.heap.size ≠ b := by omega
            cases ht : p.ty.toList.isEmpty
            · cases hs : p.st.toList.isEmpty
              · rw [ht, hs] at HFIN
                go_wp2_with (first | (go_at_call_of 84 (Value.string X1); refine (bw_string X1 HB1.out (by first | omega | ((repeat rw [List.length_append]); (repeat rw [size_len]); (repeat rw [List.length_singleton]); omega))).mono ?_; rintro e w3 ⟨rfl, hB, hb⟩; have hx := hb.blk HX1.out (by decide) hbx; obtain ⟨y0, y1, y2, y3, y4, y5, y6, yz⟩ := part_all hx; have HX3 := Lib.hid hx; have HB3 := Lib.hid hB; have HK3 := Lib.hid (HK1.out.trans hb); clear hB hb hx) | (go_at_call_of 84 (Value.string X2); refine (bw_string X2 HB3.out (by first | omega | ((repeat rw [List.length_append]); (repeat rw [size_len]); (repeat rw [List.length_singleton]); omega))).mono ?_; rintro e w4 ⟨rfl, hB, hb⟩; have hx := hb.blk HX3.out (by decide) hbx; obtain ⟨y0, y1, y2, y3, y4, y5, y6, yz⟩ := part_all hx; have HX4 := Lib.hid hx; have HB4 := Lib.hid hB; have HK4 := Lib.hid (HK3.out.trans hb); clear hB hb hx) | (go_at_call_of 84 (Value.string X3); refine (bw_string X3 HB4.out (by first | omega | ((repeat rw [List.length_append]); (repeat rw [size_len]); (repeat rw [List.length_singleton]); omega))).mono ?_; rintro e w5 ⟨rfl, hB, hb⟩; have hx := hb.blk HX4.out (by decide) hbx; obtain ⟨y0, y1, y2, y3, y4, y5, y6, yz⟩ := part_all hx; have HX5 := Lib.hid hx; have HB5 := Lib.hid hB; have HK5 := Lib.hid (HK4.out.trans hb); clear hB hb hx) | (go_at_call_of 86 (Value.int .u8 125); refine (bw_byte 125 (by omega) (by omega) HB5.out (by first | omega | ((repeat rw [List.length_append]); (repeat rw [size_len]); (repeat rw [List.length_singleton]); omega))).mono ?_; rintro e w6 ⟨rfl, hB, hb⟩; have hx := hb.blk HX5.out (by decide) hbx; obtain ⟨y0, y1, y2, y3, y4, y5, y6, yz⟩ := part_all hx; have HX6 := Lib.hid hx; have HB6 := Lib.hid hB; have HK6 := Lib.hid (HK5.out.trans hb); clear hB hb hx))
                go_roundw
                case rel => exact ⟨k + 1, by omega, by go_num, HFIN.out _ (by simpa using HB6.out) HK6.out⟩
                case measure => simp [intOf]; omega
              · rw [ht, hs] at HFIN
                go_wp2_with (first | (go_at_call_of 84 (Value.string X1); refine (bw_string X1 HB1.out (by first | omega | ((repeat rw [List.length_append]); (repeat rw [size_len]); (repeat rw [List.length_singleton]); omega))).mono ?_; rintro e w3 ⟨rfl, hB, hb⟩; have hx := hb.blk HX1.out (by decide) hbx; obtain ⟨y0, y1, y2, y3, y4, y5, y6, yz⟩ := part_all hx; have HX3 := Lib.hid hx; have HB3 := Lib.hid hB; have HK3 := Lib.hid (HK1.out.trans hb); clear hB hb hx) | (go_at_call_of 84 (Value.string X2); refine (bw_string X2 HB3.out (by first | omega | ((repeat rw [List.length_append]); (repeat rw [size_len]); (repeat rw [List.length_singleton]); omega))).mono ?_; rintro e w4 ⟨rfl, hB, hb⟩; have hx := hb.blk HX3.out (by decide) hbx; obtain ⟨y0, y1, y2, y3, y4, y5, y6, yz⟩ := part_all hx; have HX4 := Lib.hid hx; have HB4 := Lib.hid hB; have HK4 := Lib.hid (HK3.out.trans hb); clear hB hb hx) | (go_at_call_of 86 (Value.int .u8 125); refine (bw_byte 125 (by omega) (by omega) HB4.out (by first | omega | ((repeat rw [List.length_append]); (repeat rw [size_len]); (repeat rw [List.length_singleton]); omega))).mono ?_; rintro e w6 ⟨rfl, hB, hb⟩; have hx := hb.blk HX4.out (by decide) hbx; obtain ⟨y0, y1, y2, y3, y4, y5, y6, yz⟩ := part_all hx; have HX6 := Lib.hid hx; have HB6 := Lib.hid hB; have HK6 := Lib.hid (HK4.out.trans hb); clear hB hb hx))
                go_roundw
                case rel => exact ⟨k + 1, by omega, by go_num, HFIN.out _ (by simpa using HB6.out) HK6.out⟩
                case measure => simp [intOf]; omega
            · cases hs : p.st.toList.isEmpty
              · rw [ht, hs] at HFIN
                go_wp2_with (first | (go_at_call_of 84 (Value.string X1); refine (bw_string X1 HB1.out (by first | omega | ((repeat rw [List.length_append]); (repeat rw [size_len]); (repeat rw [List.length_singleton]); omega))).mono ?_; rintro e w3 ⟨rfl, hB, hb⟩; have hx := hb.blk HX1.out (by decide) hbx; obtain ⟨y0, y1, y2, y3, y4, y5, y6, yz⟩ := part_all hx; have HX3 := Lib.hid hx; have HB3 := Lib.hid hB; have HK3 := Lib.hid (HK1.out.trans hb); clear hB hb hx) | (go_at_call_of 84 (Value.string X3); refine (bw_string X3 HB3.out (by first | omega | ((repeat rw [List.length_append]); (repeat rw [size_len]); (repeat rw [List.length_singleton]); omega))).mono ?_; rintro e w5 ⟨rfl, hB, hb⟩; have hx := hb.blk HX3.out (by decide) hbx; obtain ⟨y0, y1, y2, y3, y4, y5, y6, yz⟩ := part_all hx; have HX5 := Lib.hid hx; have HB5 := Lib.hid hB; have HK5 := Lib.hid (HK3.out.trans hb); clear hB hb hx) | (go_at_call_of 86 (Value.int .u8 125); refine (bw_byte 125 (by omega) (by omega) HB5.out (by first | omega | ((repeat rw [List.length_append]); (repeat rw [size_len]); (repeat rw [List.length_singleton]); omega))).mono ?_; rintro e w6 ⟨rfl, hB, hb⟩; have hx := hb.blk HX5.out (by decide) hbx; obtain ⟨y0, y1, y2, y3, y4, y5, y6, yz⟩ := part_all hx; have HX6 := Lib.hid hx; have HB6 := Lib.hid hB; have HK6 := Lib.hid (HK5.out.trans hb); clear hB hb hx))
                go_roundw
                case rel => exact ⟨k + 1, by omega, by go_num, HFIN.out _ (by simpa using HB6.out) HK6.out⟩
                case measure => simp [intOf]; omega
              · rw [ht, hs] at HFIN
                go_wp2_with (first | (go_at_call_of 84 (Value.string X1); refine (bw_string X1 HB1.out (by first | omega | ((repeat rw [List.length_append]); (repeat rw [size_len]); (repeat rw [List.length_singleton]); omega))).mono ?_; rintro e w3 ⟨rfl, hB, hb⟩; have hx := hb.blk HX1.out (by decide) hbx; obtain ⟨y0, y1, y2, y3, y4, y5, y6, yz⟩ := part_all hx; have HX3 := Lib.hid hx; have HB3 := Lib.hid hB; have HK3 := Lib.hid (HK1.out.trans hb); clear hB hb hx) | (go_at_call_of 86 (Value.int .u8 125); refine (bw_byte 125 (by omega) (by omega) HB3.out (by first | omega | ((repeat rw [List.length_append]); (repeat rw [size_len]); (repeat rw [List.length_singleton]); omega))).mono ?_; rintro e w6 ⟨rfl, hB, hb⟩; have hx := hb.blk HX3.out (by decide) hbx; obtain ⟨y0, y1, y2, y3, y4, y5, y6, yz⟩ := part_all hx; have HX6 := Lib.hid hx; have HB6 := Lib.hid hB; have HK6 := Lib.hid (HK3.out.trans hb); clear hB hb hx))
                go_roundw
                case rel => exact ⟨k + 1, by omega, by go_num, HFIN.out _ (by simpa using HB6.out) HK6.out⟩
                case measure => simp [intOf]; omega
          · have k3 : (p.k == 3) = false := by simpa using hk3
            by_cases hk4 : p.k = 4 ∨ p.k = 5 ∨ p.k = 6
            · have hpw : partW (writeF n) h p = [123] ++ p.nm.data.toList ++ [44, 32] ++ (wordB p.k).data.toList ++ [44, 32] ++ (if p.off = 0 then [] else offW ++ Lib.itoa p.off ++ [32]) ++ caseW (fun m => writeF n m (decide (p.k ≠ 4))) false p.cs ++ [125] := by unfold partW; rw [if_neg hk1, if_neg hk2, if_neg hk3, if_pos hk4]
              rw [hpw] at hacl HFIN
              have q1 : (⟨#[123]⟩ : ByteArray).size = 1 := rfl
              have q2 : (⟨#[44, 32]⟩ : ByteArray).size = 2 := rfl
              have hbx : wr.heap.size ≠ b := by omega
              have hwl2 := wordB_len p.k
              have hac2 : ac.length ≤ 100000000000 := by omega
              clear hpw k1 k2 k3 hk1 hk2 hk3 hacl hlen hwl2
              have hrm : ac.length + 100 * (1 + p.tx.size + p.nm.size + p.ty.size + p.st.size + bulkC (bulkF n) p.cs) ≤ 100000000000 := by omega
              clear hroom haq
              have HKW := HK
              have HK1 : Hid (BK2 b wr (wr.alloc (.cells #[.int .i64 p.k, .string p.tx, .string p.nm, .string p.ty, .string p.st, .int .i64 p.off, .slice Ac p.cs.length cc] 68))) := (BK2.refl b wr).alloc (Nat.le_of_lt hbr) _
              have HLL := fun W (hW : BK2 b w W) => HL.out.below hW.below HS.out
              rcases hk4 with hk4 | hk4 | hk4
              · rw [hk4] at HFIN a0 HB1 HX1 HK1
                have hg : decide ((4 : Int) ≠ 4) = false := rfl
                rw [hg] at HFIN
                have qw : (⟨#[115, 101, 108, 101, 99, 116]⟩ : ByteArray).size = 6 := rfl
                obtain ⟨X1, z1, g1, HA1⟩ := add_run ⟨#[123]⟩ p.nm (by rw [q1]; omega)
                obtain ⟨X2, z2, g2, HA2⟩ := add_run X1 ⟨#[44, 32]⟩ (by rw [q2]; omega)
                obtain ⟨X3, z3, g3, HA3⟩ := add_run X2 ⟨#[115, 101, 108, 101, 99, 116]⟩ (by rw [qw]; omega)
                obtain ⟨X4, z4, g4, HA4⟩ := add_run X3 ⟨#[44, 32]⟩ (by rw [q2]; omega)
                have g5 : X4.data.toList = [123] ++ p.nm.data.toList ++ [44, 32] ++ (wordB 4).data.toList ++ [44, 32] := by rw [g4, g3, g2, g1]; rfl
                rw [← g5] at HFIN
                have HIW := fun W => idx_word0 W (.string ⟨#[115, 101, 108, 101, 99, 116]⟩) (.string ⟨#[112, 108, 117, 114, 97, 108]⟩) (.string ⟨#[115, 101, 108, 101, 99, 116, 111, 114, 100, 105, 110, 97, 108]⟩)
                have hk1' : ∀ m : Int, m ≠ 4 → (p.k == m) = false := fun m hm => by rw [hk4]; simpa using fun h => hm h.symm
                clear g1 g2 g3 g4 g5 hg hk1'
                by_cases ho0 : p.off = 0
                · rw [if_pos ho0] at HFIN
                  rw [ho0] at a5 HB1 HX1 HK1
                  go_wp2_with ((go_at_call_of 84 (Value.string X4); refine (bw_string X4 HB1.out (by first | omega | ((repeat rw [List.length_append]); (repeat rw [size_len]); (repeat rw [List.length_singleton]); omega))).mono ?_; rintro e w3 ⟨rfl, hB, hb⟩; have hx := hb.blk HX1.out (by decide) hbx; obtain ⟨y0, y1, y2, y3, y4, y5, y6, yz⟩ := part_all hx; rw [hk4] at y0; rw [ho0] at y5; have HX3 := Lib.hid hx; have HB3 := Lib.hid hB; have HK3 := Lib.hid (HK1.out.trans hb); clear hB hb hx))
                  have hadl : (ac ++ X4.data.toList).length ≤ ac.length + 100 * (1 + p.nm.size) := by simp only [List.length_append, size_len]; omega
                  generalize had : ac ++ X4.data.toList = ad at *
                  have HAD := Lib.hid had; clear had
                  go_loopw [87] (fun i wx => ∃ j : Nat, j ≤ p.cs.length ∧ i = .int .i64 j ∧ Bld b (ad ++ caseW (fun m => writeF n m false) false (p.cs.take j)) wx ∧ BK2 b wr wx ∧ Blk wx wr.heap.size 68 (p.cells (.slice Ac p.cs.length cc)).toArray) (fun i _ => p.cs.length - (intOf i).toNat)
                  case atStart => exact ⟨0, Nat.zero_le _, rfl, by simpa [caseW] using HB3.out, HK3.out, HX3.out⟩
                  case round =>
                    obtain ⟨j, hj, rfl, hB, hK, hX⟩ := hrel
                    obtain ⟨y0, y1, y2, y3, y4, y5, y6, yz⟩ := part_all hX
                    rw [hk4] at y0
                    by_cases hlt2 : j < p.cs.length
                    · obtain ⟨c, hc⟩ : ∃ c, p.cs[j]? = some c := ⟨_, List.getElem?_eq_getElem hlt2⟩
                      obtain ⟨A3, cap3, he, _, hcat⟩ := liesC_open (HCL.out.below hK.below HS.out)
                      injection he with he1 he2 he3
                      subst he1; subst he3
                      obtain ⟨b2, o2, pv, rfl, hb2, e1, e2, hL⟩ := hcat j c hc
                      obtain ⟨Ap, mp, kp, rfl⟩ := hL.form
                      have hsn := caseW_snoc (fun m => writeF n m false) p.cs j c hc
                      have HSN := Lib.hid hsn
                      have hoc := HOC.out c (List.mem_of_getElem? hc)
                      have hcl3 := caseW_take_len n false p.cs j c hc HOC.out
                      have hwc := allO_len n c.2 false hoc
                      have hbL2 := hB.lt
                      have hbc : wr.heap.size ≠ b := by omega
                      generalize hcj : caseW (fun m => writeF n m false) false (p.cs.take j) = cj at *
                      have hk6 : BK2 b wr (wr.alloc (.cells #[.string c.1, .slice Ap mp kp] 70)) := (BK2.refl b wr).alloc (by omega) _
                      have HB7 := Lib.hid (hB.alloc (.cells #[.string c.1, .slice Ap mp kp] 70))
                      have HX7 := Lib.hid (hk6.blk hX (by decide) hbx)
                      have HC7 : Hid (Blk (wr.alloc (.cells #[.string c.1, .slice Ap mp kp] 70)) wr.heap.size 70 #[.string c.1, .slice Ap mp kp]) := Blk.new _ _ _
                      have HK7 := Lib.hid hk6
                      have HKR := Lib.hid hK
                      have HLW := Lib.hid hL
                      have HLC : ∀ W, BK2 b wr W → Lies n S W (.slice Ap mp kp) c.2 := fun W hW => hL.below hW.below HS.out
                      obtain ⟨K1, zk, gk, HAK⟩ := add_run c.1 ⟨#[123]⟩ (by rw [q1]; omega)
                      have GK := Lib.hid gk
                      clear hcat hsn hB hK hX hL hk6 gk hc hcj
                      by_cases hj0 : j = 0
                      · have hj1 : ¬ ((0 : Int) < (j : Int)) := by omega
                        have HJ := Lib.hid hj0
                        clear hj0
                        go_wp2_with (first | (go_at_call_of 84 (Value.string K1); refine (bw_string K1 HB7.out (by first | omega | ((repeat rw [List.length_append]); (repeat rw [size_len]); (repeat rw [List.length_singleton]); omega))).mono ?_; rintro e w9 ⟨rfl, hB, hb⟩; have hx := hb.blk HX7.out (by decide) hbx; obtain ⟨y0, y1, y2, y3, y4, y5, y6, yz⟩ := part_all hx; rw [hk4] at y0; have HX9 := Lib.hid hx; have HB9 := Lib.hid hB; have HK9 := Lib.hid (HK7.out.trans hb); have hq := hb.blk HC7.out (by decide) hbc; obtain ⟨x0, x1, xz⟩ := case_cells hq; have HC9 := Lib.hid hq; clear hq; clear hB hb hx) | (go_at_call 55; refine (HIH.out c.2 false S _ b _ B _ (HEW.out _ (HKW.out.trans (HKR.out.trans HK9.out))) hBb (HLC _ HK9.out) HS.out HB9.out hoc (by omega) (by first | omega | ((repeat rw [List.length_append]); (repeat rw [size_len]); (repeat rw [List.length_singleton]); omega))).mono ?_; rintro e wA ⟨rfl, hB, hb⟩; have hx := hb.blk HX9.out (by decide) hbx; obtain ⟨y0, y1, y2, y3, y4, y5, y6, yz⟩ := part_all hx; rw [hk4] at y0; have HXA := Lib.hid hx; have HBA := Lib.hid hB; have HKA := Lib.hid (HK9.out.trans hb); have hq := hb.blk HC9.out (by decide) hbc; obtain ⟨x0, x1, xz⟩ := case_cells hq; have HCA := Lib.hid hq; clear hq; clear hB hb hx) | (go_at_call_of 86 (Value.int .u8 125); refine (bw_byte 125 (by omega) (by omega) HBA.out (by first | omega | ((repeat rw [List.length_append]); (repeat rw [size_len]); (repeat rw [List.length_singleton]); omega))).mono ?_; rintro e wB ⟨rfl, hB, hb⟩; have hx := hb.blk HXA.out (by decide) hbx; obtain ⟨y0, y1, y2, y3, y4, y5, y6, yz⟩ := part_all hx; rw [hk4] at y0; have HXB := Lib.hid hx; have HBB := Lib.hid hB; have HKB := Lib.hid (HKA.out.trans hb); have hq := hb.blk HCA.out (by decide) hbc; obtain ⟨x0, x1, xz⟩ := case_cells hq; have HCB := Lib.hid hq; clear hq; clear hB hb hx))
                        go_roundw
                        case rel => exact ⟨j + 1, by omega, by go_num, by have hs := HSN.out; have gk := GK.out; rw [if_pos HJ.out] at hs; rw [hs]; have hz := HBB.out; rw [gk] at hz; simpa using hz, HKR.out.trans HKB.out, HXB.out⟩
                        case measure => simp [intOf]; omega
                      · have hj1 : (0 : Int) < (j : Int) := by omega
                        have HJ := Lib.hid hj0
                        clear hj0
                        go_wp2_with (first | (go_at_call_of 86 (Value.int .u8 32); refine (bw_byte 32 (by omega) (by omega) HB7.out (by first | omega | ((repeat rw [List.length_append]); (repeat rw [size_len]); (repeat rw [List.length_singleton]); omega))).mono ?_; rintro e w8 ⟨rfl, hB, hb⟩; have hx := hb.blk HX7.out (by decide) hbx; obtain ⟨y0, y1, y2, y3, y4, y5, y6, yz⟩ := part_all hx; rw [hk4] at y0; have HX8 := Lib.hid hx; have HB8 := Lib.hid hB; have HK8 := Lib.hid (HK7.out.trans hb); have hq := hb.blk HC7.out (by decide) hbc; obtain ⟨x0, x1, xz⟩ := case_cells hq; have HC8 := Lib.hid hq; clear hq; clear hB hb hx) | (go_at_call_of 84 (Value.string K1); refine (bw_string K1 HB8.out (by first | omega | ((repeat rw [List.length_append]); (repeat rw [size_len]); (repeat rw [List.length_singleton]); omega))).mono ?_; rintro e w9 ⟨rfl, hB, hb⟩; have hx := hb.blk HX8.out (by decide) hbx; obtain ⟨y0, y1, y2, y3, y4, y5, y6, yz⟩ := part_all hx; rw [hk4] at y0; have HX9 := Lib.hid hx; have HB9 := Lib.hid hB; have HK9 := Lib.hid (HK8.out.trans hb); have hq := hb.blk HC8.out (by decide) hbc; obtain ⟨x0, x1, xz⟩ := case_cells hq; have HC9 := Lib.hid hq; clear hq; clear hB hb hx) | (go_at_call 55; refine (HIH.out c.2 false S _ b _ B _ (HEW.out _ (HKW.out.trans (HKR.out.trans HK9.out))) hBb (HLC _ HK9.out) HS.out HB9.out hoc (by omega) (by first | omega | ((repeat rw [List.length_append]); (repeat rw [size_len]); (repeat rw [List.length_singleton]); omega))).mono ?_; rintro e wA ⟨rfl, hB, hb⟩; have hx := hb.blk HX9.out (by decide) hbx; obtain ⟨y0, y1, y2, y3, y4, y5, y6, yz⟩ := part_all hx; rw [hk4] at y0; have HXA := Lib.hid hx; have HBA := Lib.hid hB; have HKA := Lib.hid (HK9.out.trans hb); have hq := hb.blk HC9.out (by decide) hbc; obtain ⟨x0, x1, xz⟩ := case_cells hq; have HCA := Lib.hid hq; clear hq; clear hB hb hx) | (go_at_call_of 86 (Value.int .u8 125); refine (bw_byte 125 (by omega) (by omega) HBA.out (by first | omega | ((repeat rw [List.length_append]); (repeat rw [size_len]); (repeat rw [List.length_singleton]); omega))).mono ?_; rintro e wB ⟨rfl, hB, hb⟩; have hx := hb.blk HXA.out (by decide) hbx; obtain ⟨y0, y1, y2, y3, y4, y5, y6, yz⟩ := part_all hx; rw [hk4] at y0; have HXB := Lib.hid hx; have HBB := Lib.hid hB; have HKB := Lib.hid (HKA.out.trans hb); have hq := hb.blk HCA.out (by decide) hbc; obtain ⟨x0, x1, xz⟩ := case_cells hq; have HCB := Lib.hid hq; clear hq; clear hB hb hx))
                        go_roundw
                        case rel => exact ⟨j + 1, by omega, by go_num, by have hs := HSN.out; have gk := GK.out; rw [if_neg HJ.out] at hs; rw [hs]; have hz := HBB.out; rw [gk] at hz; simpa using hz, HKR.out.trans HKB.out, HXB.out⟩
                        case measure => simp [intOf]; omega
                    · obtain rfl : j = p.cs.length := by omega
                      rw [List.take_length] at hB
                      have HB7 := Lib.hid hB
                      have HX7 := Lib.hid hX
                      have HK7 := Lib.hid (BK2.refl b wr)
                      have HKR := Lib.hid hK
                      have hcl4 := caseW_lenO n false false p.cs HOC.out
                      clear hB hX hK
                      go_wp2_with ((go_at_call_of 86 (Value.int .u8 125); refine (bw_byte 125 (by omega) (by omega) HB7.out (by first | omega | ((repeat rw [List.length_append]); (repeat rw [size_len]); (repeat rw [List.length_singleton]); omega))).mono ?_; rintro e w8 ⟨rfl, hB, hb⟩; have hx := hb.blk HX7.out (by decide) hbx; obtain ⟨y0, y1, y2, y3, y4, y5, y6, yz⟩ := part_all hx; rw [hk4] at y0; have HX8 := Lib.hid hx; have HB8 := Lib.hid hB; have HK8 := Lib.hid (HK7.out.trans hb); clear hB hb hx))
                      go_roundw
                      case rel => exact ⟨k + 1, by omega, by go_num, HFIN.out _ (by have hz := HB8.out; rw [← HAD.out] at hz; simpa using hz) (HKW.out.trans (HKR.out.trans HK8.out))⟩
                      case measure => simp [intOf]; omega
                · rw [if_neg ho0] at HFIN
                  have HIT : Hid (∀ W, EnvM B W → Calls Tryz.prog 87 #[.int .i64 p.off] W fun e w' => e = .returned (.string ⟨(Lib.itoa p.off).toArray⟩) ∧ ∃ k os, w' = Go.Sort.grow (W.drewN k) os) := fun W hW => Tryz.strconv_Itoa p.off (by have := hop.1; omega) (by have := hop.2; omega) W hW.vars.pow
                  have hi1 : (⟨(Lib.itoa p.off).toArray⟩ : ByteArray).size ≤ 21 := by have := itoa_off hop; rw [toArr_size]; exact this
                  have hi2 : (⟨(Lib.itoa p.off).toArray⟩ : ByteArray).data.toList = Lib.itoa p.off := by simp
                  generalize (⟨(Lib.itoa p.off).toArray⟩ : ByteArray) = I1 at *
                  have qo : (⟨#[111, 102, 102, 115, 101, 116, 58]⟩ : ByteArray).size = 7 := rfl
                  have q3 : (⟨#[32]⟩ : ByteArray).size = 1 := rfl
                  obtain ⟨Y1, zy1, gy1, HY1⟩ := add_run ⟨#[111, 102, 102, 115, 101, 116, 58]⟩ I1 (by rw [qo]; omega)
                  obtain ⟨Y2, zy2, gy2, HY2⟩ := add_run Y1 ⟨#[32]⟩ (by rw [q3]; omega)
                  have gy : Y2.data.toList = offW ++ Lib.itoa p.off ++ [32] := by rw [gy2, gy1, hi2]; rfl
                  rw [← gy] at HFIN
                  have ho1 : (p.off == 0) = false := by simpa using ho0
                  clear gy1 gy2 gy hi2
                  go_wp2_with (first | (go_at_call_of 84 (Value.string X4); refine (bw_string X4 HB1.out (by first | omega | ((repeat rw [List.length_append]); (repeat rw [size_len]); (repeat rw [List.length_singleton]); omega))).mono ?_; rintro e w3 ⟨rfl, hB, hb⟩; have hx := hb.blk HX1.out (by decide) hbx; obtain ⟨y0, y1, y2, y3, y4, y5, y6, yz⟩ := part_all hx; rw [hk4] at y0; have HX3 := Lib.hid hx; have HB3 := Lib.hid hB; have HK3 := Lib.hid (HK1.out.trans hb); clear hB hb hx) | (go_at_call 87; refine (HIT.out _ (HEW.out _ (HKW.out.trans HK3.out))).mono ?_; rintro e w4 ⟨rfl, ki, osi, hw4⟩; have hki : Keep [] w3 w4 := (by rw [hw4]; exact Keep.of_below (below_itoa w3 ki osi)); have hx := HX3.out.keep hki (by simp); obtain ⟨y0, y1, y2, y3, y4, y5, y6, yz⟩ := part_all hx; rw [hk4] at y0; have HX4 := Lib.hid hx; have HB4 := Lib.hid (HB3.out.keep_nil hki); have HK4 := Lib.hid (HK3.out.keep hki (Nat.le_of_lt HB3.out.lt)); clear hw4 hki hx) | (go_at_call_of 84 (Value.string Y2); refine (bw_string Y2 HB4.out (by first | omega | ((repeat rw [List.length_append]); (repeat rw [size_len]); (repeat rw [List.length_singleton]); omega))).mono ?_; rintro e w5 ⟨rfl, hB, hb⟩; have hx := hb.blk HX4.out (by decide) hbx; obtain ⟨y0, y1, y2, y3, y4, y5, y6, yz⟩ := part_all hx; rw [hk4] at y0; have HX5 := Lib.hid hx; have HB5 := Lib.hid hB; have HK5 := Lib.hid (HK4.out.trans hb); clear hB hb hx))
                  have hadl : (ac ++ X4.data.toList ++ Y2.data.toList).length ≤ ac.length + 100 * (1 + p.nm.size) := by simp only [List.length_append, size_len]; omega
                  generalize had : ac ++ X4.data.toList ++ Y2.data.toList = ad at *
                  have HAD := Lib.hid had; clear had
                  go_loopw [87] (fun i wx => ∃ j : Nat, j ≤ p.cs.length ∧ i = .int .i64 j ∧ Bld b (ad ++ caseW (fun m => writeF n m false) false (p.cs.take j)) wx ∧ BK2 b wr wx ∧ Blk wx wr.heap.size 68 (p.cells (.slice Ac p.cs.length cc)).toArray) (fun i _ => p.cs.length - (intOf i).toNat)
                  case atStart => exact ⟨0, Nat.zero_le _, rfl, by simpa [caseW] using HB5.out, HK5.out, HX5.out⟩
                  case round =>
                    obtain ⟨j, hj, rfl, hB, hK, hX⟩ := hrel
                    obtain ⟨y0, y1, y2, y3, y4, y5, y6, yz⟩ := part_all hX
                    rw [hk4] at y0
                    by_cases hlt2 : j < p.cs.length
                    · obtain ⟨c, hc⟩ : ∃ c, p.cs[j]? = some c := ⟨_, List.getElem?_eq_getElem hlt2⟩
                      obtain ⟨A3, cap3, he, _, hcat⟩ := liesC_open (HCL.out.below hK.below HS.out)
                      injection he with he1 he2 he3
                      subst he1; subst he3
                      obtain ⟨b2, o2, pv, rfl, hb2, e1, e2, hL⟩ := hcat j c hc
                      obtain ⟨Ap, mp, kp, rfl⟩ := hL.form
                      have hsn := caseW_snoc (fun m => writeF n m false) p.cs j c hc
                      have HSN := Lib.hid hsn
                      have hoc := HOC.out c (List.mem_of_getElem? hc)
                      have hcl3 := caseW_take_len n false p.cs j c hc HOC.out
                      have hwc := allO_len n c.2 false hoc
                      have hbL2 := hB.lt
                      have hbc : wr.heap.size ≠ b := by omega
                      generalize hcj : caseW (fun m => writeF n m false) false (p.cs.take j) = cj at *
                      have hk6 : BK2 b wr (wr.alloc (.cells #[.string c.1, .slice Ap mp kp] 70)) := (BK2.refl b wr).alloc (by omega) _
                      have HB7 := Lib.hid (hB.alloc (.cells #[.string c.1, .slice Ap mp kp] 70))
                      have HX7 := Lib.hid (hk6.blk hX (by decide) hbx)
                      have HC7 : Hid (Blk (wr.alloc (.cells #[.string c.1, .slice Ap mp kp] 70)) wr.heap.size 70 #[.string c.1, .slice Ap mp kp]) := Blk.new _ _ _
                      have HK7 := Lib.hid hk6
                      have HKR := Lib.hid hK
                      have HLW := Lib.hid hL
                      have HLC : ∀ W, BK2 b wr W → Lies n S W (.slice Ap mp kp) c.2 := fun W hW => hL.below hW.below HS.out
                      obtain ⟨K1, zk, gk, HAK⟩ := add_run c.1 ⟨#[123]⟩ (by rw [q1]; omega)
                      have GK := Lib.hid gk
                      clear hcat hsn hB hK hX hL hk6 gk hc hcj
                      by_cases hj0 : j = 0
                      · have hj1 : ¬ ((0 : Int) < (j : Int)) := by omega
                        have HJ := Lib.hid hj0
                        clear hj0
                        go_wp2_with (first | (go_at_call_of 84 (Value.string K1); refine (bw_string K1 HB7.out (by first | omega | ((repeat rw [List.length_append]); (repeat rw [size_len]); (repeat rw [List.length_singleton]); omega))).mono ?_; rintro e w9 ⟨rfl, hB, hb⟩; have hx := hb.blk HX7.out (by decide) hbx; obtain ⟨y0, y1, y2, y3, y4, y5, y6, yz⟩ := part_all hx; rw [hk4] at y0; have HX9 := Lib.hid hx; have HB9 := Lib.hid hB; have HK9 := Lib.hid (HK7.out.trans hb); have hq := hb.blk HC7.out (by decide) hbc; obtain ⟨x0, x1, xz⟩ := case_cells hq; have HC9 := Lib.hid hq; clear hq; clear hB hb hx) | (go_at_call 55; refine (HIH.out c.2 false S _ b _ B _ (HEW.out _ (HKW.out.trans (HKR.out.trans HK9.out))) hBb (HLC _ HK9.out) HS.out HB9.out hoc (by omega) (by first | omega | ((repeat rw [List.length_append]); (repeat rw [size_len]); (repeat rw [List.length_singleton]); omega))).mono ?_; rintro e wA ⟨rfl, hB, hb⟩; have hx := hb.blk HX9.out (by decide) hbx; obtain ⟨y0, y1, y2, y3, y4, y5, y6, yz⟩ := part_all hx; rw [hk4] at y0; have HXA := Lib.hid hx; have HBA := Lib.hid hB; have HKA := Lib.hid (HK9.out.trans hb); have hq := hb.blk HC9.out (by decide) hbc; obtain ⟨x0, x1, xz⟩ := case_cells hq; have HCA := Lib.hid hq; clear hq; clear hB hb hx) | (go_at_call_of 86 (Value.int .u8 125); refine (bw_byte 125 (by omega) (by omega) HBA.out (by first | omega | ((repeat rw [List.length_append]); (repeat rw [size_len]); (repeat rw [List.length_singleton]); omega))).mono ?_; rintro e wB ⟨rfl, hB, hb⟩; have hx := hb.blk HXA.out (by decide) hbx; obtain ⟨y0, y1, y2, y3, y4, y5, y6, yz⟩ := part_all hx; rw [hk4] at y0; have HXB := Lib.hid hx; have HBB := Lib.hid hB; have HKB := Lib.hid (HKA.out.trans hb); have hq := hb.blk HCA.out (by decide) hbc; obtain ⟨x0, x1, xz⟩ := case_cells hq; have HCB := Lib.hid hq; clear hq; clear hB hb hx))
                        go_roundw
                        case rel => exact ⟨j + 1, by omega, by go_num, by have hs := HSN.out; have gk := GK.out; rw [if_pos HJ.out] at hs; rw [hs]; have hz := HBB.out; rw [gk] at hz; simpa using hz, HKR.out.trans HKB.out, HXB.out⟩
                        case measure => simp [intOf]; omega
                      · have hj1 : (0 : Int) < (j : Int) := by omega
                        have HJ := Lib.hid hj0
                        clear hj0
                        go_wp2_with (first | (go_at_call_of 86 (Value.int .u8 32); refine (bw_byte 32 (by omega) (by omega) HB7.out (by first | omega | ((repeat rw [List.length_append]); (repeat rw [size_len]); (repeat rw [List.length_singleton]); omega))).mono ?_; rintro e w8 ⟨rfl, hB, hb⟩; have hx := hb.blk HX7.out (by decide) hbx; obtain ⟨y0, y1, y2, y3, y4, y5, y6, yz⟩ := part_all hx; rw [hk4] at y0; have HX8 := Lib.hid hx; have HB8 := Lib.hid hB; have HK8 := Lib.hid (HK7.out.trans hb); have hq := hb.blk HC7.out (by decide) hbc; obtain ⟨x0, x1, xz⟩ := case_cells hq; have HC8 := Lib.hid hq; clear hq; clear hB hb hx) | (go_at_call_of 84 (Value.string K1); refine (bw_string K1 HB8.out (by first | omega | ((repeat rw [List.length_append]); (repeat rw [size_len]); (repeat rw [List.length_singleton]); omega))).mono ?_; rintro e w9 ⟨rfl, hB, hb⟩; have hx := hb.blk HX8.out (by decide) hbx; obtain ⟨y0, y1, y2, y3, y4, y5, y6, yz⟩ := part_all hx; rw [hk4] at y0; have HX9 := Lib.hid hx; have HB9 := Lib.hid hB; have HK9 := Lib.hid (HK8.out.trans hb); have hq := hb.blk HC8.out (by decide) hbc; obtain ⟨x0, x1, xz⟩ := case_cells hq; have HC9 := Lib.hid hq; clear hq; clear hB hb hx) | (go_at_call 55; refine (HIH.out c.2 false S _ b _ B _ (HEW.out _ (HKW.out.trans (HKR.out.trans HK9.out))) hBb (HLC _ HK9.out) HS.out HB9.out hoc (by omega) (by first | omega | ((repeat rw [List.length_append]); (repeat rw [size_len]); (repeat rw [List.length_singleton]); omega))).mono ?_; rintro e wA ⟨rfl, hB, hb⟩; have hx := hb.blk HX9.out (by decide) hbx; obtain ⟨y0, y1, y2, y3, y4, y5, y6, yz⟩ := part_all hx; rw [hk4] at y0; have HXA := Lib.hid hx; have HBA := Lib.hid hB; have HKA := Lib.hid (HK9.out.trans hb); have hq := hb.blk HC9.out (by decide) hbc; obtain ⟨x0, x1, xz⟩ := case_cells hq; have HCA := Lib.hid hq; clear hq; clear hB hb hx) | (go_at_call_of 86 (Value.int .u8 125); refine (bw_byte 125 (by omega) (by omega) HBA.out (by first | omega | ((repeat rw [List.length_append]); (repeat rw [size_len]); (repeat rw [List.length_singleton]); omega))).mono ?_; rintro e wB ⟨rfl, hB, hb⟩; have hx := hb.blk HXA.out (by decide) hbx; obtain ⟨y0, y1, y2, y3, y4, y5, y6, yz⟩ := part_all hx; rw [hk4] at y0; have HXB := Lib.hid hx; have HBB := Lib.hid hB; have HKB := Lib.hid (HKA.out.trans hb); have hq := hb.blk HCA.out (by decide) hbc; obtain ⟨x0, x1, xz⟩ := case_cells hq; have HCB := Lib.hid hq; clear hq; clear hB hb hx))
                        go_roundw
                        case rel => exact ⟨j + 1, by omega, by go_num, by have hs := HSN.out; have gk := GK.out; rw [if_neg HJ.out] at hs; rw [hs]; have hz := HBB.out; rw [gk] at hz; simpa using hz, HKR.out.trans HKB.out, HXB.out⟩
                        case measure => simp [intOf]; omega
                    · obtain rfl : j = p.cs.length := by omega
                      rw [List.take_length] at hB
                      have HB7 := Lib.hid hB
                      have HX7 := Lib.hid hX
                      have HK7 := Lib.hid (BK2.refl b wr)
                      have HKR := Lib.hid hK
                      have hcl4 := caseW_lenO n false false p.cs HOC.out
                      clear hB hX hK
                      go_wp2_with ((go_at_call_of 86 (Value.int .u8 125); refine (bw_byte 125 (by omega) (by omega) HB7.out (by first | omega | ((repeat rw [List.length_append]); (repeat rw [size_len]); (repeat rw [List.length_singleton]); omega))).mono ?_; rintro e w8 ⟨rfl, hB, hb⟩; have hx := hb.blk HX7.out (by decide) hbx; obtain ⟨y0, y1, y2, y3, y4, y5, y6, yz⟩ := part_all hx; rw [hk4] at y0; have HX8 := Lib.hid hx; have HB8 := Lib.hid hB; have HK8 := Lib.hid (HK7.out.trans hb); clear hB hb hx))
                      go_roundw
                      case rel => exact ⟨k + 1, by omega, by go_num, HFIN.out _ (by have hz := HB8.out; rw [← HAD.out] at hz; simpa using hz) (HKW.out.trans (HKR.out.trans HK8.out))⟩
                      case measure => simp [intOf]; omega
              · rw [hk4] at HFIN a0 HB1 HX1 HK1
                have hg : decide ((5 : Int) ≠ 4) = true := rfl
                rw [hg] at HFIN
                have qw : (⟨#[112, 108, 117, 114, 97, 108]⟩ : ByteArray).size = 6 := rfl
                obtain ⟨X1, z1, g1, HA1⟩ := add_run ⟨#[123]⟩ p.nm (by rw [q1]; omega)
                obtain ⟨X2, z2, g2, HA2⟩ := add_run X1 ⟨#[44, 32]⟩ (by rw [q2]; omega)
                obtain ⟨X3, z3, g3, HA3⟩ := add_run X2 ⟨#[112, 108, 117, 114, 97, 108]⟩ (by rw [qw]; omega)
                obtain ⟨X4, z4, g4, HA4⟩ := add_run X3 ⟨#[44, 32]⟩ (by rw [q2]; omega)
                have g5 : X4.data.toList = [123] ++ p.nm.data.toList ++ [44, 32] ++ (wordB 5).data.toList ++ [44, 32] := by rw [g4, g3, g2, g1]; rfl
                rw [← g5] at HFIN
                have HIW := fun W => idx_word1 W (.string ⟨#[115, 101, 108, 101, 99, 116]⟩) (.string ⟨#[112, 108, 117, 114, 97, 108]⟩) (.string ⟨#[115, 101, 108, 101, 99, 116, 111, 114, 100, 105, 110, 97, 108]⟩)
                have hk1' : ∀ m : Int, m ≠ 5 → (p.k == m) = false := fun m hm => by rw [hk4]; simpa using fun h => hm h.symm
                clear g1 g2 g3 g4 g5 hg hk1'
                by_cases ho0 : p.off = 0
                · rw [if_pos ho0] at HFIN
                  rw [ho0] at a5 HB1 HX1 HK1
                  go_wp2_with ((go_at_call_of 84 (Value.string X4); refine (bw_string X4 HB1.out (by first | omega | ((repeat rw [List.length_append]); (repeat rw [size_len]); (repeat rw [List.length_singleton]); omega))).mono ?_; rintro e w3 ⟨rfl, hB, hb⟩; have hx := hb.blk HX1.out (by decide) hbx; obtain ⟨y0, y1, y2, y3, y4, y5, y6, yz⟩ := part_all hx; rw [hk4] at y0; rw [ho0] at y5; have HX3 := Lib.hid hx; have HB3 := Lib.hid hB; have HK3 := Lib.hid (HK1.out.trans hb); clear hB hb hx))
                  have hadl : (ac ++ X4.data.toList).length ≤ ac.length + 100 * (1 + p.nm.size) := by simp only [List.length_append, size_len]; omega
                  generalize had : ac ++ X4.data.toList = ad at *
                  have HAD := Lib.hid had; clear had
                  go_loopw [87] (fun i wx => ∃ j : Nat, j ≤ p.cs.length ∧ i = .int .i64 j ∧ Bld b (ad ++ caseW (fun m => writeF n m true) false (p.cs.take j)) wx ∧ BK2 b wr wx ∧ Blk wx wr.heap.size 68 (p.cells (.slice Ac p.cs.length cc)).toArray) (fun i _ => p.cs.length - (intOf i).toNat)
                  case atStart => exact ⟨0, Nat.zero_le _, rfl, by simpa [caseW] using HB3.out, HK3.out, HX3.out⟩
                  case round =>
                    obtain ⟨j, hj, rfl, hB, hK, hX⟩ := hrel
                    obtain ⟨y0, y1, y2, y3, y4, y5, y6, yz⟩ := part_all hX
                    rw [hk4] at y0
                    by_cases hlt2 : j < p.cs.length
                    · obtain ⟨c, hc⟩ : ∃ c, p.cs[j]? = some c := ⟨_, List.getElem?_eq_getElem hlt2⟩
                      obtain ⟨A3, cap3, he, _, hcat⟩ := liesC_open (HCL.out.below hK.below HS.out)
                      injection he with he1 he2 he3
                      subst he1; subst he3
                      obtain ⟨b2, o2, pv, rfl, hb2, e1, e2, hL⟩ := hcat j c hc
                      obtain ⟨Ap, mp, kp, rfl⟩ := hL.form
                      have hsn := caseW_snoc (fun m => writeF n m true) p.cs j c hc
                      have HSN := Lib.hid hsn
                      have hoc := HOC.out c (List.mem_of_getElem? hc)
                      have hcl3 := caseW_take_len n true p.cs j c hc HOC.out
                      have hwc := allO_len n c.2 true hoc
                      have hbL2 := hB.lt
                      have hbc : wr.heap.size ≠ b := by omega
                      generalize hcj : caseW (fun m => writeF n m true) false (p.cs.take j) = cj at *
                      have hk6 : BK2 b wr (wr.alloc (.cells #[.string c.1, .slice Ap mp kp] 70)) := (BK2.refl b wr).alloc (by omega) _
                      have HB7 := Lib.hid (hB.alloc (.cells #[.string c.1, .slice Ap mp kp] 70))
                      have HX7 := Lib.hid (hk6.blk hX (by decide) hbx)
                      have HC7 : Hid (Blk (wr.alloc (.cells #[.string c.1, .slice Ap mp kp] 70)) wr.heap.size 70 #[.string c.1, .slice Ap mp kp]) := Blk.new _ _ _
                      have HK7 := Lib.hid hk6
                      have HKR := Lib.hid hK
                      have HLW := Lib.hid hL
                      have HLC : ∀ W, BK2 b wr W → Lies n S W (.slice Ap mp kp) c.2 := fun W hW => hL.below hW.below HS.out
                      obtain ⟨K1, zk, gk, HAK⟩ := add_run c.1 ⟨#[123]⟩ (by rw [q1]; omega)
                      have GK := Lib.hid gk
                      clear hcat hsn hB hK hX hL hk6 gk hc hcj
                      by_cases hj0 : j = 0
                      · have hj1 : ¬ ((0 : Int) < (j : Int)) := by omega
                        have HJ := Lib.hid hj0
                        clear hj0
                        go_wp2_with (first | (go_at_call_of 84 (Value.string K1); refine (bw_string K1 HB7.out (by first | omega | ((repeat rw [List.length_append]); (repeat rw [size_len]); (repeat rw [List.length_singleton]); omega))).mono ?_; rintro e w9 ⟨rfl, hB, hb⟩; have hx := hb.blk HX7.out (by decide) hbx; obtain ⟨y0, y1, y2, y3, y4, y5, y6, yz⟩ := part_all hx; rw [hk4] at y0; have HX9 := Lib.hid hx; have HB9 := Lib.hid hB; have HK9 := Lib.hid (HK7.out.trans hb); have hq := hb.blk HC7.out (by decide) hbc; obtain ⟨x0, x1, xz⟩ := case_cells hq; have HC9 := Lib.hid hq; clear hq; clear hB hb hx) | (go_at_call 55; refine (HIH.out c.2 true S _ b _ B _ (HEW.out _ (HKW.out.trans (HKR.out.trans HK9.out))) hBb (HLC _ HK9.out) HS.out HB9.out hoc (by omega) (by first | omega | ((repeat rw [List.length_append]); (repeat rw [size_len]); (repeat rw [List.length_singleton]); omega))).mono ?_; rintro e wA ⟨rfl, hB, hb⟩; have hx := hb.blk HX9.out (by decide) hbx; obtain ⟨y0, y1, y2, y3, y4, y5, y6, yz⟩ := part_all hx; rw [hk4] at y0; have HXA := Lib.hid hx; have HBA := Lib.hid hB; have HKA := Lib.hid (HK9.out.trans hb); have hq := hb.blk HC9.out (by decide) hbc; obtain ⟨x0, x1, xz⟩ := case_cells hq; have HCA := Lib.hid hq; clear hq; clear hB hb hx) | (go_at_call_of 86 (Value.int .u8 125); refine (bw_byte 125 (by omega) (by omega) HBA.out (by first | omega | ((repeat rw [List.length_append]); (repeat rw [size_len]); (repeat rw [List.length_singleton]); omega))).mono ?_; rintro e wB ⟨rfl, hB, hb⟩; have hx := hb.blk HXA.out (by decide) hbx; obtain ⟨y0, y1, y2, y3, y4, y5, y6, yz⟩ := part_all hx; rw [hk4] at y0; have HXB := Lib.hid hx; have HBB := Lib.hid hB; have HKB := Lib.hid (HKA.out.trans hb); have hq := hb.blk HCA.out (by decide) hbc; obtain ⟨x0, x1, xz⟩ := case_cells hq; have HCB := Lib.hid hq; clear hq; clear hB hb hx))
                        go_roundw
                        case rel => exact ⟨j + 1, by omega, by go_num, by have hs := HSN.out; have gk := GK.out; rw [if_pos HJ.out] at hs; rw [hs]; have hz := HBB.out; rw [gk] at hz; simpa using hz, HKR.out.trans HKB.out, HXB.out⟩
                        case measure => simp [intOf]; omega
                      · have hj1 : (0 : Int) < (j : Int) := by omega
                        have HJ := Lib.hid hj0
                        clear hj0
                        go_wp2_with (first | (go_at_call_of 86 (Value.int .u8 32); refine (bw_byte 32 (by omega) (by omega) HB7.out (by first | omega | ((repeat rw [List.length_append]); (repeat rw [size_len]); (repeat rw [List.length_singleton]); omega))).mono ?_; rintro e w8 ⟨rfl, hB, hb⟩; have hx := hb.blk HX7.out (by decide) hbx; obtain ⟨y0, y1, y2, y3, y4, y5, y6, yz⟩ := part_all hx; rw [hk4] at y0; have HX8 := Lib.hid hx; have HB8 := Lib.hid hB; have HK8 := Lib.hid (HK7.out.trans hb); have hq := hb.blk HC7.out (by decide) hbc; obtain ⟨x0, x1, xz⟩ := case_cells hq; have HC8 := Lib.hid hq; clear hq; clear hB hb hx) | (go_at_call_of 84 (Value.string K1); refine (bw_string K1 HB8.out (by first | omega | ((repeat rw [List.length_append]); (repeat rw [size_len]); (repeat rw [List.length_singleton]); omega))).mono ?_; rintro e w9 ⟨rfl, hB, hb⟩; have hx := hb.blk HX8.out (by decide) hbx; obtain ⟨y0, y1, y2, y3, y4, y5, y6, yz⟩ := part_all hx; rw [hk4] at y0; have HX9 := Lib.hid hx; have HB9 := Lib.hid hB; have HK9 := Lib.hid (HK8.out.trans hb); have hq := hb.blk HC8.out (by decide) hbc; obtain ⟨x0, x1, xz⟩ := case_cells hq; have HC9 := Lib.hid hq; clear hq; clear hB hb hx) | (go_at_call 55; refine (HIH.out c.2 true S _ b _ B _ (HEW.out _ (HKW.out.trans (HKR.out.trans HK9.out))) hBb (HLC _ HK9.out) HS.out HB9.out hoc (by omega) (by first | omega | ((repeat rw [List.length_append]); (repeat rw [size_len]); (repeat rw [List.length_singleton]); omega))).mono ?_; rintro e wA ⟨rfl, hB, hb⟩; have hx := hb.blk HX9.out (by decide) hbx; obtain ⟨y0, y1, y2, y3, y4, y5, y6, yz⟩ := part_all hx; rw [hk4] at y0; have HXA := Lib.hid hx; have HBA := Lib.hid hB; have HKA := Lib.hid (HK9.out.trans hb); have hq := hb.blk HC9.out (by decide) hbc; obtain ⟨x0, x1, xz⟩ := case_cells hq; have HCA := Lib.hid hq; clear hq; clear hB hb hx) | (go_at_call_of 86 (Value.int .u8 125); refine (bw_byte 125 (by omega) (by omega) HBA.out (by first | omega | ((repeat rw [List.length_append]); (repeat rw [size_len]); (repeat rw [List.length_singleton]); omega))).mono ?_; rintro e wB ⟨rfl, hB, hb⟩; have hx := hb.blk HXA.out (by decide) hbx; obtain ⟨y0, y1, y2, y3, y4, y5, y6, yz⟩ := part_all hx; rw [hk4] at y0; have HXB := Lib.hid hx; have HBB := Lib.hid hB; have HKB := Lib.hid (HKA.out.trans hb); have hq := hb.blk HCA.out (by decide) hbc; obtain ⟨x0, x1, xz⟩ := case_cells hq; have HCB := Lib.hid hq; clear hq; clear hB hb hx))
                        go_roundw
                        case rel => exact ⟨j + 1, by omega, by go_num, by have hs := HSN.out; have gk := GK.out; rw [if_neg HJ.out] at hs; rw [hs]; have hz := HBB.out; rw [gk] at hz; simpa using hz, HKR.out.trans HKB.out, HXB.out⟩
                        case measure => simp [intOf]; omega
                    · obtain rfl : j = p.cs.length := by omega
                      rw [List.take_length] at hB
                      have HB7 := Lib.hid hB
                      have HX7 := Lib.hid hX
                      have HK7 := Lib.hid (BK2.refl b wr)
                      have HKR := Lib.hid hK
                      have hcl4 := caseW_lenO n true false p.cs HOC.out
                      clear hB hX hK
                      go_wp2_with ((go_at_call_of 86 (Value.int .u8 125); refine (bw_byte 125 (by omega) (by omega) HB7.out (by first | omega | ((repeat rw [List.length_append]); (repeat rw [size_len]); (repeat rw [List.length_singleton]); omega))).mono ?_; rintro e w8 ⟨rfl, hB, hb⟩; have hx := hb.blk HX7.out (by decide) hbx; obtain ⟨y0, y1, y2, y3, y4, y5, y6, yz⟩ := part_all hx; rw [hk4] at y0; have HX8 := Lib.hid hx; have HB8 := Lib.hid hB; have HK8 := Lib.hid (HK7.out.trans hb); clear hB hb hx))
                      go_roundw
                      case rel => exact ⟨k + 1, by omega, by go_num, HFIN.out _ (by have hz := HB8.out; rw [← HAD.out] at hz; simpa using hz) (HKW.out.trans (HKR.out.trans HK8.out))⟩
                      case measure => simp [intOf]; omega
                · rw [if_neg ho0] at HFIN
                  have HIT : Hid (∀ W, EnvM B W → Calls Tryz.prog 87 #[.int .i64 p.off] W fun e w' => e = .returned (.string ⟨(Lib.itoa p.off).toArray⟩) ∧ ∃ k os, w' = Go.Sort.grow (W.drewN k) os) := fun W hW => Tryz.strconv_Itoa p.off (by have := hop.1; omega) (by have := hop.2; omega) W hW.vars.pow
                  have hi1 : (⟨(Lib.itoa p.off).toArray⟩ : ByteArray).size ≤ 21 := by have := itoa_off hop; rw [toArr_size]; exact this
                  have hi2 : (⟨(Lib.itoa p.off).toArray⟩ : ByteArray).data.toList = Lib.itoa p.off := by simp
                  generalize (⟨(Lib.itoa p.off).toArray⟩ : ByteArray) = I1 at *
                  have qo : (⟨#[111, 102, 102, 115, 101, 116, 58]⟩ : ByteArray).size = 7 := rfl
                  have q3 : (⟨#[32]⟩ : ByteArray).size = 1 := rfl
                  obtain ⟨Y1, zy1, gy1, HY1⟩ := add_run ⟨#[111, 102, 102, 115, 101, 116, 58]⟩ I1 (by rw [qo]; omega)
                  obtain ⟨Y2, zy2, gy2, HY2⟩ := add_run Y1 ⟨#[32]⟩ (by rw [q3]; omega)
                  have gy : Y2.data.toList = offW ++ Lib.itoa p.off ++ [32] := by rw [gy2, gy1, hi2]; rfl
                  rw [← gy] at HFIN
                  have ho1 : (p.off == 0) = false := by simpa using ho0
                  clear gy1 gy2 gy hi2
                  go_wp2_with (first | (go_at_call_of 84 (Value.string X4); refine (bw_string X4 HB1.out (by first | omega | ((repeat rw [List.length_append]); (repeat rw [size_len]); (repeat rw [List.length_singleton]); omega))).mono ?_; rintro e w3 ⟨rfl, hB, hb⟩; have hx := hb.blk HX1.out (by decide) hbx; obtain ⟨y0, y1, y2, y3, y4, y5, y6, yz⟩ := part_all hx; rw [hk4] at y0; have HX3 := Lib.hid hx; have HB3 := Lib.hid hB; have HK3 := Lib.hid (HK1.out.trans hb); clear hB hb hx) | (go_at_call 87; refine (HIT.out _ (HEW.out _ (HKW.out.trans HK3.out))).mono ?_; rintro e w4 ⟨rfl, ki, osi, hw4⟩; have hki : Keep [] w3 w4 := (by rw [hw4]; exact Keep.of_below (below_itoa w3 ki osi)); have hx := HX3.out.keep hki (by simp); obtain ⟨y0, y1, y2, y3, y4, y5, y6, yz⟩ := part_all hx; rw [hk4] at y0; have HX4 := Lib.hid hx; have HB4 := Lib.hid (HB3.out.keep_nil hki); have HK4 := Lib.hid (HK3.out.keep hki (Nat.le_of_lt HB3.out.lt)); clear hw4 hki hx) | (go_at_call_of 84 (Value.string Y2); refine (bw_string Y2 HB4.out (by first | omega | ((repeat rw [List.length_append]); (repeat rw [size_len]); (repeat rw [List.length_singleton]); omega))).mono ?_; rintro e w5 ⟨rfl, hB, hb⟩; have hx := hb.blk HX4.out (by decide) hbx; obtain ⟨y0, y1, y2, y3, y4, y5, y6, yz⟩ := part_all hx; rw [hk4] at y0; have HX5 := Lib.hid hx; have HB5 := Lib.hid hB; have HK5 := Lib.hid (HK4.out.trans hb); clear hB hb hx))
                  have hadl : (ac ++ X4.data.toList ++ Y2.data.toList).length ≤ ac.length + 100 * (1 + p.nm.size) := by simp only [List.length_append, size_len]; omega
                  generalize had : ac ++ X4.data.toList ++ Y2.data.toList = ad at *
                  have HAD := Lib.hid had; clear had
                  go_loopw [87] (fun i wx => ∃ j : Nat, j ≤ p.cs.length ∧ i = .int .i64 j ∧ Bld b (ad ++ caseW (fun m => writeF n m true) false (p.cs.take j)) wx ∧ BK2 b wr wx ∧ Blk wx wr.heap.size 68 (p.cells (.slice Ac p.cs.length cc)).toArray) (fun i _ => p.cs.length - (intOf i).toNat)
                  case atStart => exact ⟨0, Nat.zero_le _, rfl, by simpa [caseW] using HB5.out, HK5.out, HX5.out⟩
                  case round =>
                    obtain ⟨j, hj, rfl, hB, hK, hX⟩ := hrel
                    obtain ⟨y0, y1, y2, y3, y4, y5, y6, yz⟩ := part_all hX
                    rw [hk4] at y0
                    by_cases hlt2 : j < p.cs.length
                    · obtain ⟨c, hc⟩ : ∃ c, p.cs[j]? = some c := ⟨_, List.getElem?_eq_getElem hlt2⟩
                      obtain ⟨A3, cap3, he, _, hcat⟩ := liesC_open (HCL.out.below hK.below HS.out)
                      injection he with he1 he2 he3
                      subst he1; subst he3
                      obtain ⟨b2, o2, pv, rfl, hb2, e1, e2, hL⟩ := hcat j c hc
                      obtain ⟨Ap, mp, kp, rfl⟩ := hL.form
                      have hsn := caseW_snoc (fun m => writeF n m true) p.cs j c hc
                      have HSN := Lib.hid hsn
                      have hoc := HOC.out c (List.mem_of_getElem? hc)
                      have hcl3 := caseW_take_len n true p.cs j c hc HOC.out
                      have hwc := allO_len n c.2 true hoc
                      have hbL2 := hB.lt
                      have hbc : wr.heap.size ≠ b := by omega
                      generalize hcj : caseW (fun m => writeF n m true) false (p.cs.take j) = cj at *
                      have hk6 : BK2 b wr (wr.alloc (.cells #[.string c.1, .slice Ap mp kp] 70)) := (BK2.refl b wr).alloc (by omega) _
                      have HB7 := Lib.hid (hB.alloc (.cells #[.string c.1, .slice Ap mp kp] 70))
                      have HX7 := Lib.hid (hk6.blk hX (by decide) hbx)
                      have HC7 : Hid (Blk (wr.alloc (.cells #[.string c.1, .slice Ap mp kp] 70)) wr.heap.size 70 #[.string c.1, .slice Ap mp kp]) := Blk.new _ _ _
                      have HK7 := Lib.hid hk6
                      have HKR := Lib.hid hK
                      have HLW := Lib.hid hL
                      have HLC : ∀ W, BK2 b wr W → Lies n S W (.slice Ap mp kp) c.2 := fun W hW => hL.below hW.below HS.out
                      obtain ⟨K1, zk, gk, HAK⟩ := add_run c.1 ⟨#[123]⟩ (by rw [q1]; omega)
                      have GK := Lib.hid gk
                      clear hcat hsn hB hK hX hL hk6 gk hc hcj
                      by_cases hj0 : j = 0
                      · have hj1 : ¬ ((0 : Int) < (j : Int)) := by omega
                        have HJ := Lib.hid hj0
                        clear hj0
                        go_wp2_with (first | (go_at_call_of 84 (Value.string K1); refine (bw_string K1 HB7.out (by first | omega | ((repeat rw [List.length_append]); (repeat rw [size_len]); (repeat rw [List.length_singleton]); omega))).mono ?_; rintro e w9 ⟨rfl, hB, hb⟩; have hx := hb.blk HX7.out (by decide) hbx; obtain ⟨y0, y1, y2, y3, y4, y5, y6, yz⟩ := part_all hx; rw [hk4] at y0; have HX9 := Lib.hid hx; have HB9 := Lib.hid hB; have HK9 := Lib.hid (HK7.out.trans hb); have hq := hb.blk HC7.out (by decide) hbc; obtain ⟨x0, x1, xz⟩ := case_cells hq; have HC9 := Lib.hid hq; clear hq; clear hB hb hx) | (go_at_call 55; refine (HIH.out c.2 true S _ b _ B _ (HEW.out _ (HKW.out.trans (HKR.out.trans HK9.out))) hBb (HLC _ HK9.out) HS.out HB9.out hoc (by omega) (by first | omega | ((repeat rw [List.length_append]); (repeat rw [size_len]); (repeat rw [List.length_singleton]); omega))).mono ?_; rintro e wA ⟨rfl, hB, hb⟩; have hx := hb.blk HX9.out (by decide) hbx; obtain ⟨y0, y1, y2, y3, y4, y5, y6, yz⟩ := part_all hx; rw [hk4] at y0; have HXA := Lib.hid hx; have HBA := Lib.hid hB; have HKA := Lib.hid (HK9.out.trans hb); have hq := hb.blk HC9.out (by decide) hbc; obtain ⟨x0, x1, xz⟩ := case_cells hq; have HCA := Lib.hid hq; clear hq; clear hB hb hx) | (go_at_call_of 86 (Value.int .u8 125); refine (bw_byte 125 (by omega) (by omega) HBA.out (by first | omega | ((repeat rw [List.length_append]); (repeat rw [size_len]); (repeat rw [List.length_singleton]); omega))).mono ?_; rintro e wB ⟨rfl, hB, hb⟩; have hx := hb.blk HXA.out (by decide) hbx; obtain ⟨y0, y1, y2, y3, y4, y5, y6, yz⟩ := part_all hx; rw [hk4] at y0; have HXB := Lib.hid hx; have HBB := Lib.hid hB; have HKB := Lib.hid (HKA.out.trans hb); have hq := hb.blk HCA.out (by decide) hbc; obtain ⟨x0, x1, xz⟩ := case_cells hq; have HCB := Lib.hid hq; clear hq; clear hB hb hx))
                        go_roundw
                        case rel => exact ⟨j + 1, by omega, by go_num, by have hs := HSN.out; have gk := GK.out; rw [if_pos HJ.out] at hs; rw [hs]; have hz := HBB.out; rw [gk] at hz; simpa using hz, HKR.out.trans HKB.out, HXB.out⟩
                        case measure => simp [intOf]; omega
                      · have hj1 : (0 : Int) < (j : Int) := by omega
                        have HJ := Lib.hid hj0
                        clear hj0
                        go_wp2_with (first | (go_at_call_of 86 (Value.int .u8 32); refine (bw_byte 32 (by omega) (by omega) HB7.out (by first | omega | ((repeat rw [List.length_append]); (repeat rw [size_len]); (repeat rw [List.length_singleton]); omega))).mono ?_; rintro e w8 ⟨rfl, hB, hb⟩; have hx := hb.blk HX7.out (by decide) hbx; obtain ⟨y0, y1, y2, y3, y4, y5, y6, yz⟩ := part_all hx; rw [hk4] at y0; have HX8 := Lib.hid hx; have HB8 := Lib.hid hB; have HK8 := Lib.hid (HK7.out.trans hb); have hq := hb.blk HC7.out (by decide) hbc; obtain ⟨x0, x1, xz⟩ := case_cells hq; have HC8 := Lib.hid hq; clear hq; clear hB hb hx) | (go_at_call_of 84 (Value.string K1); refine (bw_string K1 HB8.out (by first | omega | ((repeat rw [List.length_append]); (repeat rw [size_len]); (repeat rw [List.length_singleton]); omega))).mono ?_; rintro e w9 ⟨rfl, hB, hb⟩; have hx := hb.blk HX8.out (by decide) hbx; obtain ⟨y0, y1, y2, y3, y4, y5, y6, yz⟩ := part_all hx; rw [hk4] at y0; have HX9 := Lib.hid hx; have HB9 := Lib.hid hB; have HK9 := Lib.hid (HK8.out.trans hb); have hq := hb.blk HC8.out (by decide) hbc; obtain ⟨x0, x1, xz⟩ := case_cells hq; have HC9 := Lib.hid hq; clear hq; clear hB hb hx) | (go_at_call 55; refine (HIH.out c.2 true S _ b _ B _ (HEW.out _ (HKW.out.trans (HKR.out.trans HK9.out))) hBb (HLC _ HK9.out) HS.out HB9.out hoc (by omega) (by first | omega | ((repeat rw [List.length_append]); (repeat rw [size_len]); (repeat rw [List.length_singleton]); omega))).mono ?_; rintro e wA ⟨rfl, hB, hb⟩; have hx := hb.blk HX9.out (by decide) hbx; obtain ⟨y0, y1, y2, y3, y4, y5, y6, yz⟩ := part_all hx; rw [hk4] at y0; have HXA := Lib.hid hx; have HBA := Lib.hid hB; have HKA := Lib.hid (HK9.out.trans hb); have hq := hb.blk HC9.out (by decide) hbc; obtain ⟨x0, x1, xz⟩ := case_cells hq; have HCA := Lib.hid hq; clear hq; clear hB hb hx) | (go_at_call_of 86 (Value.int .u8 125); refine (bw_byte 125 (by omega) (by omega) HBA.out (by first | omega | ((repeat rw [List.length_append]); (repeat rw [size_len]); (repeat rw [List.length_singleton]); omega))).mono ?_; rintro e wB ⟨rfl, hB, hb⟩; have hx := hb.blk HXA.out (by decide) hbx; obtain ⟨y0, y1, y2, y3, y4, y5, y6, yz⟩ := part_all hx; rw [hk4] at y0; have HXB := Lib.hid hx; have HBB := Lib.hid hB; have HKB := Lib.hid (HKA.out.trans hb); have hq := hb.blk HCA.out (by decide) hbc; obtain ⟨x0, x1, xz⟩ := case_cells hq; have HCB := Lib.hid hq; clear hq; clear hB hb hx))
                        go_roundw
                        case rel => exact ⟨j + 1, by omega, by go_num, by have hs := HSN.out; have gk := GK.out; rw [if_neg HJ.out] at hs; rw [hs]; have hz := HBB.out; rw [gk] at hz; simpa using hz, HKR.out.trans HKB.out, HXB.out⟩
                        case measure => simp [intOf]; omega
                    · obtain rfl : j = p.cs.length := by omega
                      rw [List.take_length] at hB
                      have HB7 := Lib.hid hB
                      have HX7 := Lib.hid hX
                      have HK7 := Lib.hid (BK2.refl b wr)
                      have HKR := Lib.hid hK
                      have hcl4 := caseW_lenO n true false p.cs HOC.out
                      clear hB hX hK
                      go_wp2_with ((go_at_call_of 86 (Value.int .u8 125); refine (bw_byte 125 (by omega) (by omega) HB7.out (by first | omega | ((repeat rw [List.length_append]); (repeat rw [size_len]); (repeat rw [List.length_singleton]); omega))).mono ?_; rintro e w8 ⟨rfl, hB, hb⟩; have hx := hb.blk HX7.out (by decide) hbx; obtain ⟨y0, y1, y2, y3, y4, y5, y6, yz⟩ := part_all hx; rw [hk4] at y0; have HX8 := Lib.hid hx; have HB8 := Lib.hid hB; have HK8 := Lib.hid (HK7.out.trans hb); clear hB hb hx))
                      go_roundw
                      case rel => exact ⟨k + 1, by omega, by go_num, HFIN.out _ (by have hz := HB8.out; rw [← HAD.out] at hz; simpa using hz) (HKW.out.trans (HKR.out.trans HK8.out))⟩
                      case measure => simp [intOf]; omega
              · rw [hk4] at HFIN a0 HB1 HX1 HK1
                have hg : decide ((6 : Int) ≠ 4) = true := rfl
                rw [hg] at HFIN
                have qw : (⟨#[115, 101, 108, 101, 99, 116, 111, 114, 100, 105, 110, 97, 108]⟩ : ByteArray).size = 13 := rfl
                obtain ⟨X1, z1, g1, HA1⟩ := add_run ⟨#[123]⟩ p.nm (by rw [q1]; omega)
                obtain ⟨X2, z2, g2, HA2⟩ := add_run X1 ⟨#[44, 32]⟩ (by rw [q2]; omega)
                obtain ⟨X3, z3, g3, HA3⟩ := add_run X2 ⟨#[115, 101, 108, 101, 99, 116, 111, 114, 100, 105, 110, 97, 108]⟩ (by rw [qw]; omega)
                obtain ⟨X4, z4, g4, HA4⟩ := add_run X3 ⟨#[44, 32]⟩ (by rw [q2]; omega)
                have g5 : X4.data.toList = [123] ++ p.nm.data.toList ++ [44, 32] ++ (wordB 6).data.toList ++ [44, 32] := by rw [g4, g3, g2, g1]; rfl
                rw [← g5] at HFIN
                have HIW := fun W => idx_word2 W (.string ⟨#[115, 101, 108, 101, 99, 116]⟩) (.string ⟨#[112, 108, 117, 114, 97, 108]⟩) (.string ⟨#[115, 101, 108, 101, 99, 116, 111, 114, 100, 105, 110, 97, 108]⟩)
                have hk1' : ∀ m : Int, m ≠ 6 → (p.k == m) = false := fun m hm => by rw [hk4]; simpa using fun h => hm h.symm
                clear g1 g2 g3 g4 g5 hg hk1'
                by_cases ho0 : p.off = 0
                · rw [if_pos ho0] at HFIN
                  rw [ho0] at a5 HB1 HX1 HK1
                  go_wp2_with ((go_at_call_of 84 (Value.string X4); refine (bw_string X4 HB1.out (by first | omega | ((repeat rw [List.length_append]); (repeat rw [size_len]); (repeat rw [List.length_singleton]); omega))).mono ?_; rintro e w3 ⟨rfl, hB, hb⟩; have hx := hb.blk HX1.out (by decide) hbx; obtain ⟨y0, y1, y2, y3, y4, y5, y6, yz⟩ := part_all hx; rw [hk4] at y0; rw [ho0] at y5; have HX3 := Lib.hid hx; have HB3 := Lib.hid hB; have HK3 := Lib.hid (HK1.out.trans hb); clear hB hb hx))
                  have hadl : (ac ++ X4.data.toList).length ≤ ac.length + 100 * (1 + p.nm.size) := by simp only [List.length_append, size_len]; omega
                  generalize had : ac ++ X4.data.toList = ad at *
                  have HAD := Lib.hid had; clear had
                  go_loopw [87] (fun i wx => ∃ j : Nat, j ≤ p.cs.length ∧ i = .int .i64 j ∧ Bld b (ad ++ caseW (fun m => writeF n m true) false (p.cs.take j)) wx ∧ BK2 b wr wx ∧ Blk wx wr.heap.size 68 (p.cells (.slice Ac p.cs.length cc)).toArray) (fun i _ => p.cs.length - (intOf i).toNat)
                  case atStart => exact ⟨0, Nat.zero_le _, rfl, by simpa [caseW] using HB3.out, HK3.out, HX3.out⟩
                  case round =>
                    obtain ⟨j, hj, rfl, hB, hK, hX⟩ := hrel
                    obtain ⟨y0, y1, y2, y3, y4, y5, y6, yz⟩ := part_all hX
                    rw [hk4] at y0
                    by_cases hlt2 : j < p.cs.length
                    · obtain ⟨c, hc⟩ : ∃ c, p.cs[j]? = some c := ⟨_, List.getElem?_eq_getElem hlt2⟩
                      obtain ⟨A3, cap3, he, _, hcat⟩ := liesC_open (HCL.out.below hK.below HS.out)
                      injection he with he1 he2 he3
                      subst he1; subst he3
                      obtain ⟨b2, o2, pv, rfl, hb2, e1, e2, hL⟩ := hcat j c hc
                      obtain ⟨Ap, mp, kp, rfl⟩ := hL.form
                      have hsn := caseW_snoc (fun m => writeF n m true) p.cs j c hc
                      have HSN := Lib.hid hsn
                      have hoc := HOC.out c (List.mem_of_getElem? hc)
                      have hcl3 := caseW_take_len n true p.cs j c hc HOC.out
                      have hwc := allO_len n c.2 true hoc
                      have hbL2 := hB.lt
                      have hbc : wr.heap.size ≠ b := by omega
                      generalize hcj : caseW (fun m => writeF n m true) false (p.cs.take j) = cj at *
                      have hk6 : BK2 b wr (wr.alloc (.cells #[.string c.1, .slice Ap mp kp] 70)) := (BK2.refl b wr).alloc (by omega) _
                      have HB7 := Lib.hid (hB.alloc (.cells #[.string c.1, .slice Ap mp kp] 70))
                      have HX7 := Lib.hid (hk6.blk hX (by decide) hbx)
                      have HC7 : Hid (Blk (wr.alloc (.cells #[.string c.1, .slice Ap mp kp] 70)) wr.heap.size 70 #[.string c.1, .slice Ap mp kp]) := Blk.new _ _ _
                      have HK7 := Lib.hid hk6
                      have HKR := Lib.hid hK
                      have HLW := Lib.hid hL
                      have HLC : ∀ W, BK2 b wr W → Lies n S W (.slice Ap mp kp) c.2 := fun W hW => hL.below hW.below HS.out
                      obtain ⟨K1, zk, gk, HAK⟩ := add_run c.1 ⟨#[123]⟩ (by rw [q1]; omega)
                      have GK := Lib.hid gk
                      clear hcat hsn hB hK hX hL hk6 gk hc hcj
                      by_cases hj0 : j = 0
                      · have hj1 : ¬ ((0 : Int) < (j : Int)) := by omega
                        have HJ := Lib.hid hj0
                        clear hj0
                        go_wp2_with (first | (go_at_call_of 84 (Value.string K1); refine (bw_string K1 HB7.out (by first | omega | ((repeat rw [List.length_append]); (repeat rw [size_len]); (repeat rw [List.length_singleton]); omega))).mono ?_; rintro e w9 ⟨rfl, hB, hb⟩; have hx := hb.blk HX7.out (by decide) hbx; obtain ⟨y0, y1, y2, y3, y4, y5, y6, yz⟩ := part_all hx; rw [hk4] at y0; have HX9 := Lib.hid hx; have HB9 := Lib.hid hB; have HK9 := Lib.hid (HK7.out.trans hb); have hq := hb.blk HC7.out (by decide) hbc; obtain ⟨x0, x1, xz⟩ := case_cells hq; have HC9 := Lib.hid hq; clear hq; clear hB hb hx) | (go_at_call 55; refine (HIH.out c.2 true S _ b _ B _ (HEW.out _ (HKW.out.trans (HKR.out.trans HK9.out))) hBb (HLC _ HK9.out) HS.out HB9.out hoc (by omega) (by first | omega | ((repeat rw [List.length_append]); (repeat rw [size_len]); (repeat rw [List.length_singleton]); omega))).mono ?_; rintro e wA ⟨rfl, hB, hb⟩; have hx := hb.blk HX9.out (by decide) hbx; obtain ⟨y0, y1, y2, y3, y4, y5, y6, yz⟩ := part_all hx; rw [hk4] at y0; have HXA := Lib.hid hx; have HBA := Lib.hid hB; have HKA := Lib.hid (HK9.out.trans hb); have hq := hb.blk HC9.out (by decide) hbc; obtain ⟨x0, x1, xz⟩ := case_cells hq; have HCA := Lib.hid hq; clear hq; clear hB hb hx) | (go_at_call_of 86 (Value.int .u8 125); refine (bw_byte 125 (by omega) (by omega) HBA.out (by first | omega | ((repeat rw [List.length_append]); (repeat rw [size_len]); (repeat rw [List.length_singleton]); omega))).mono ?_; rintro e wB ⟨rfl, hB, hb⟩; have hx := hb.blk HXA.out (by decide) hbx; obtain ⟨y0, y1, y2, y3, y4, y5, y6, yz⟩ := part_all hx; rw [hk4] at y0; have HXB := Lib.hid hx; have HBB := Lib.hid hB; have HKB := Lib.hid (HKA.out.trans hb); have hq := hb.blk HCA.out (by decide) hbc; obtain ⟨x0, x1, xz⟩ := case_cells hq; have HCB := Lib.hid hq; clear hq; clear hB hb hx))
                        go_roundw
                        case rel => exact ⟨j + 1, by omega, by go_num, by have hs := HSN.out; have gk := GK.out; rw [if_pos HJ.out] at hs; rw [hs]; have hz := HBB.out; rw [gk] at hz; simpa using hz, HKR.out.trans HKB.out, HXB.out⟩
                        case measure => simp [intOf]; omega
                      · have hj1 : (0 : Int) < (j : Int) := by omega
                        have HJ := Lib.hid hj0
                        clear hj0
                        go_wp2_with (first | (go_at_call_of 86 (Value.int .u8 32); refine (bw_byte 32 (by omega) (by omega) HB7.out (by first | omega | ((repeat rw [List.length_append]); (repeat rw [size_len]); (repeat rw [List.length_singleton]); omega))).mono ?_; rintro e w8 ⟨rfl, hB, hb⟩; have hx := hb.blk HX7.out (by decide) hbx; obtain ⟨y0, y1, y2, y3, y4, y5, y6, yz⟩ := part_all hx; rw [hk4] at y0; have HX8 := Lib.hid hx; have HB8 := Lib.hid hB; have HK8 := Lib.hid (HK7.out.trans hb); have hq := hb.blk HC7.out (by decide) hbc; obtain ⟨x0, x1, xz⟩ := case_cells hq; have HC8 := Lib.hid hq; clear hq; clear hB hb hx) | (go_at_call_of 84 (Value.string K1); refine (bw_string K1 HB8.out (by first | omega | ((repeat rw [List.length_append]); (repeat rw [size_len]); (repeat rw [List.length_singleton]); omega))).mono ?_; rintro e w9 ⟨rfl, hB, hb⟩; have hx := hb.blk HX8.out (by decide) hbx; obtain ⟨y0, y1, y2, y3, y4, y5, y6, yz⟩ := part_all hx; rw [hk4] at y0; have HX9 := Lib.hid hx; have HB9 := Lib.hid hB; have HK9 := Lib.hid (HK8.out.trans hb); have hq := hb.blk HC8.out (by decide) hbc; obtain ⟨x0, x1, xz⟩ := case_cells hq; have HC9 := Lib.hid hq; clear hq; clear hB hb hx) | (go_at_call 55; refine (HIH.out c.2 true S _ b _ B _ (HEW.out _ (HKW.out.trans (HKR.out.trans HK9.out))) hBb (HLC _ HK9.out) HS.out HB9.out hoc (by omega) (by first | omega | ((repeat rw [List.length_append]); (repeat rw [size_len]); (repeat rw [List.length_singleton]); omega))).mono ?_; rintro e wA ⟨rfl, hB, hb⟩; have hx := hb.blk HX9.out (by decide) hbx; obtain ⟨y0, y1, y2, y3, y4, y5, y6, yz⟩ := part_all hx; rw [hk4] at y0; have HXA := Lib.hid hx; have HBA := Lib.hid hB; have HKA := Lib.hid (HK9.out.trans hb); have hq := hb.blk HC9.out (by decide) hbc; obtain ⟨x0, x1, xz⟩ := case_cells hq; have HCA := Lib.hid hq; clear hq; clear hB hb hx) | (go_at_call_of 86 (Value.int .u8 125); refine (bw_byte 125 (by omega) (by omega) HBA.out (by first | omega | ((repeat rw [List.length_append]); (repeat rw [size_len]); (repeat rw [List.length_singleton]); omega))).mono ?_; rintro e wB ⟨rfl, hB, hb⟩; have hx := hb.blk HXA.out (by decide) hbx; obtain ⟨y0, y1, y2, y3, y4, y5, y6, yz⟩ := part_all hx; rw [hk4] at y0; have HXB := Lib.hid hx; have HBB := Lib.hid hB; have HKB := Lib.hid (HKA.out.trans hb); have hq := hb.blk HCA.out (by decide) hbc; obtain ⟨x0, x1, xz⟩ := case_cells hq; have HCB := Lib.hid hq; clear hq; clear hB hb hx))
                        go_roundw
                        case rel => exact ⟨j + 1, by omega, by go_num, by have hs := HSN.out; have gk := GK.out; rw [if_neg HJ.out] at hs; rw [hs]; have hz := HBB.out; rw [gk] at hz; simpa using hz, HKR.out.trans HKB.out, HXB.out⟩
                        case measure => simp [intOf]; omega
                    · obtain rfl : j = p.cs.length := by omega
                      rw [List.take_length] at hB
                      have HB7 := Lib.hid hB
                      have HX7 := Lib.hid hX
                      have HK7 := Lib.hid (BK2.refl b wr)
                      have HKR := Lib.hid hK
                      have hcl4 := caseW_lenO n true false p.cs HOC.out
                      clear hB hX hK
                      go_wp2_with ((go_at_call_of 86 (Value.int .u8 125); refine (bw_byte 125 (by omega) (by omega) HB7.out (by first | omega | ((repeat rw [List.length_append]); (repeat rw [size_len]); (repeat rw [List.length_singleton]); omega))).mono ?_; rintro e w8 ⟨rfl, hB, hb⟩; have hx := hb.blk HX7.out (by decide) hbx; obtain ⟨y0, y1, y2, y3, y4, y5, y6, yz⟩ := part_all hx; rw [hk4] at y0; have HX8 := Lib.hid hx; have HB8 := Lib.hid hB; have HK8 := Lib.hid (HK7.out.trans hb); clear hB hb hx))
                      go_roundw
                      case rel => exact ⟨k + 1, by omega, by go_num, HFIN.out _ (by have hz := HB8.out; rw [← HAD.out] at hz; simpa using hz) (HKW.out.trans (HKR.out.trans HK8.out))⟩
                      case measure => simp [intOf]; omega
                · rw [if_neg ho0] at HFIN
                  have HIT : Hid (∀ W, EnvM B W → Calls Tryz.prog 87 #[.int .i64 p.off] W fun e w' => e = .returned (.string ⟨(Lib.itoa p.off).toArray⟩) ∧ ∃ k os, w' = Go.Sort.grow (W.drewN k) os) := fun W hW => Tryz.strconv_Itoa p.off (by have := hop.1; omega) (by have := hop.2; omega) W hW.vars.pow
                  have hi1 : (⟨(Lib.itoa p.off).toArray⟩ : ByteArray).size ≤ 21 := by have := itoa_off hop; rw [toArr_size]; exact this
                  have hi2 : (⟨(Lib.itoa p.off).toArray⟩ : ByteArray).data.toList = Lib.itoa p.off := by simp
                  generalize (⟨(Lib.itoa p.off).toArray⟩ : ByteArray) = I1 at *
                  have qo : (⟨#[111, 102, 102, 115, 101, 116, 58]⟩ : ByteArray).size = 7 := rfl
                  have q3 : (⟨#[32]⟩ : ByteArray).size = 1 := rfl
                  obtain ⟨Y1, zy1, gy1, HY1⟩ := add_run ⟨#[111, 102, 102, 115, 101, 116, 58]⟩ I1 (by rw [qo]; omega)
                  obtain ⟨Y2, zy2, gy2, HY2⟩ := add_run Y1 ⟨#[32]⟩ (by rw [q3]; omega)
                  have gy : Y2.data.toList = offW ++ Lib.itoa p.off ++ [32] := by rw [gy2, gy1, hi2]; rfl
                  rw [← gy] at HFIN
                  have ho1 : (p.off == 0) = false := by simpa using ho0
                  clear gy1 gy2 gy hi2
                  go_wp2_with (first | (go_at_call_of 84 (Value.string X4); refine (bw_string X4 HB1.out (by first | omega | ((repeat rw [List.length_append]); (repeat rw [size_len]); (repeat rw [List.length_singleton]); omega))).mono ?_; rintro e w3 ⟨rfl, hB, hb⟩; have hx := hb.blk HX1.out (by decide) hbx; obtain ⟨y0, y1, y2, y3, y4, y5, y6, yz⟩ := part_all hx; rw [hk4] at y0; have HX3 := Lib.hid hx; have HB3 := Lib.hid hB; have HK3 := Lib.hid (HK1.out.trans hb); clear hB hb hx) | (go_at_call 87; refine (HIT.out _ (HEW.out _ (HKW.out.trans HK3.out))).mono ?_; rintro e w4 ⟨rfl, ki, osi, hw4⟩; have hki : Keep [] w3 w4 := (by rw [hw4]; exact Keep.of_below (below_itoa w3 ki osi)); have hx := HX3.out.keep hki (by simp); obtain ⟨y0, y1, y2, y3, y4, y5, y6, yz⟩ := part_all hx; rw [hk4] at y0; have HX4 := Lib.hid hx; have HB4 := Lib.hid (HB3.out.keep_nil hki); have HK4 := Lib.hid (HK3.out.keep hki (Nat.le_of_lt HB3.out.lt)); clear hw4 hki hx) | (go_at_call_of 84 (Value.string Y2); refine (bw_string Y2 HB4.out (by first | omega | ((repeat rw [List.length_append]); (repeat rw [size_len]); (repeat rw [List.length_singleton]); omega))).mono ?_; rintro e w5 ⟨rfl, hB, hb⟩; have hx := hb.blk HX4.out (by decide) hbx; obtain ⟨y0, y1, y2, y3, y4, y5, y6, yz⟩ := part_all hx; rw [hk4] at y0; have HX5 := Lib.hid hx; have HB5 := Lib.hid hB; have HK5 := Lib.hid (HK4.out.trans hb); clear hB hb hx))
                  have hadl : (ac ++ X4.data.toList ++ Y2.data.toList).length ≤ ac.length + 100 * (1 + p.nm.size) := by simp only [List.length_append, size_len]; omega
                  generalize had : ac ++ X4.data.toList ++ Y2.data.toList = ad at *
                  have HAD := Lib.hid had; clear had
                  go_loopw [87] (fun i wx => ∃ j : Nat, j ≤ p.cs.length ∧ i = .int .i64 j ∧ Bld b (ad ++ caseW (fun m => writeF n m true) false (p.cs.take j)) wx ∧ BK2 b wr wx ∧ Blk wx wr.heap.size 68 (p.cells (.slice Ac p.cs.length cc)).toArray) (fun i _ => p.cs.length - (intOf i).toNat)
                  case atStart => exact ⟨0, Nat.zero_le _, rfl, by simpa [caseW] using HB5.out, HK5.out, HX5.out⟩
                  case round =>
                    obtain ⟨j, hj, rfl, hB, hK, hX⟩ := hrel
                    obtain ⟨y0, y1, y2, y3, y4, y5, y6, yz⟩ := part_all hX
                    rw [hk4] at y0
                    by_cases hlt2 : j < p.cs.length
                    · obtain ⟨c, hc⟩ : ∃ c, p.cs[j]? = some c := ⟨_, List.getElem?_eq_getElem hlt2⟩
                      obtain ⟨A3, cap3, he, _, hcat⟩ := liesC_open (HCL.out.below hK.below HS.out)
                      injection he with he1 he2 he3
                      subst he1; subst he3
                      obtain ⟨b2, o2, pv, rfl, hb2, e1, e2, hL⟩ := hcat j c hc
                      obtain ⟨Ap, mp, kp, rfl⟩ := hL.form
                      have hsn := caseW_snoc (fun m => writeF n m true) p.cs j c hc
                      have HSN := Lib.hid hsn
                      have hoc := HOC.out c (List.mem_of_getElem? hc)
                      have hcl3 := caseW_take_len n true p.cs j c hc HOC.out
                      have hwc := allO_len n c.2 true hoc
                      have hbL2 := hB.lt
                      have hbc : wr.heap.size ≠ b := by omega
                      generalize hcj : caseW (fun m => writeF n m true) false (p.cs.take j) = cj at *
                      have hk6 : BK2 b wr (wr.alloc (.cells #[.string c.1, .slice Ap mp kp] 70)) := (BK2.refl b wr).alloc (by omega) _
                      have HB7 := Lib.hid (hB.alloc (.cells #[.string c.1, .slice Ap mp kp] 70))
                      have HX7 := Lib.hid (hk6.blk hX (by decide) hbx)
                      have HC7 : Hid (Blk (wr.alloc (.cells #[.string c.1, .slice Ap mp kp] 70)) wr.heap.size 70 #[.string c.1, .slice Ap mp kp]) := Blk.new _ _ _
                      have HK7 := Lib.hid hk6
                      have HKR := Lib.hid hK
                      have HLW := Lib.hid hL
                      have HLC : ∀ W, BK2 b wr W → Lies n S W (.slice Ap mp kp) c.2 := fun W hW => hL.below hW.below HS.out
                      obtain ⟨K1, zk, gk, HAK⟩ := add_run c.1 ⟨#[123]⟩ (by rw [q1]; omega)
                      have GK := Lib.hid gk
                      clear hcat hsn hB hK hX hL hk6 gk hc hcj
                      by_cases hj0 : j = 0
                      · have hj1 : ¬ ((0 : Int) < (j : Int)) := by omega
                        have HJ := Lib.hid hj0
                        clear hj0
                        go_wp2_with (first | (go_at_call_of 84 (Value.string K1); refine (bw_string K1 HB7.out (by first | omega | ((repeat rw [List.length_append]); (repeat rw [size_len]); (repeat rw [List.length_singleton]); omega))).mono ?_; rintro e w9 ⟨rfl, hB, hb⟩; have hx := hb.blk HX7.out (by decide) hbx; obtain ⟨y0, y1, y2, y3, y4, y5, y6, yz⟩ := part_all hx; rw [hk4] at y0; have HX9 := Lib.hid hx; have HB9 := Lib.hid hB; have HK9 := Lib.hid (HK7.out.trans hb); have hq := hb.blk HC7.out (by decide) hbc; obtain ⟨x0, x1, xz⟩ := case_cells hq; have HC9 := Lib.hid hq; clear hq; clear hB hb hx) | (go_at_call 55; refine (HIH.out c.2 true S _ b _ B _ (HEW.out _ (HKW.out.trans (HKR.out.trans HK9.out))) hBb (HLC _ HK9.out) HS.out HB9.out hoc (by omega) (by first | omega | ((repeat rw [List.length_append]); (repeat rw [size_len]); (repeat rw [List.length_singleton]); omega))).mono ?_; rintro e wA ⟨rfl, hB, hb⟩; have hx := hb.blk HX9.out (by decide) hbx; obtain ⟨y0, y1, y2, y3, y4, y5, y6, yz⟩ := part_all hx; rw [hk4] at y0; have HXA := Lib.hid hx; have HBA := Lib.hid hB; have HKA := Lib.hid (HK9.out.trans hb); have hq := hb.blk HC9.out (by decide) hbc; obtain ⟨x0, x1, xz⟩ := case_cells hq; have HCA := Lib.hid hq; clear hq; clear hB hb hx) | (go_at_call_of 86 (Value.int .u8 125); refine (bw_byte 125 (by omega) (by omega) HBA.out (by first | omega | ((repeat rw [List.length_append]); (repeat rw [size_len]); (repeat rw [List.length_singleton]); omega))).mono ?_; rintro e wB ⟨rfl, hB, hb⟩; have hx := hb.blk HXA.out (by decide) hbx; obtain ⟨y0, y1, y2, y3, y4, y5, y6, yz⟩ := part_all hx; rw [hk4] at y0; have HXB := Lib.hid hx; have HBB := Lib.hid hB; have HKB := Lib.hid (HKA.out.trans hb); have hq := hb.blk HCA.out (by decide) hbc; obtain ⟨x0, x1, xz⟩ := case_cells hq; have HCB := Lib.hid hq; clear hq; clear hB hb hx))
                        go_roundw
                        case rel => exact ⟨j + 1, by omega, by go_num, by have hs := HSN.out; have gk := GK.out; rw [if_pos HJ.out] at hs; rw [hs]; have hz := HBB.out; rw [gk] at hz; simpa using hz, HKR.out.trans HKB.out, HXB.out⟩
                        case measure => simp [intOf]; omega
                      · have hj1 : (0 : Int) < (j : Int) := by omega
                        have HJ := Lib.hid hj0
                        clear hj0
                        go_wp2_with (first | (go_at_call_of 86 (Value.int .u8 32); refine (bw_byte 32 (by omega) (by omega) HB7.out (by first | omega | ((repeat rw [List.length_append]); (repeat rw [size_len]); (repeat rw [List.length_singleton]); omega))).mono ?_; rintro e w8 ⟨rfl, hB, hb⟩; have hx := hb.blk HX7.out (by decide) hbx; obtain ⟨y0, y1, y2, y3, y4, y5, y6, yz⟩ := part_all hx; rw [hk4] at y0; have HX8 := Lib.hid hx; have HB8 := Lib.hid hB; have HK8 := Lib.hid (HK7.out.trans hb); have hq := hb.blk HC7.out (by decide) hbc; obtain ⟨x0, x1, xz⟩ := case_cells hq; have HC8 := Lib.hid hq; clear hq; clear hB hb hx) | (go_at_call_of 84 (Value.string K1); refine (bw_string K1 HB8.out (by first | omega | ((repeat rw [List.length_append]); (repeat rw [size_len]); (repeat rw [List.length_singleton]); omega))).mono ?_; rintro e w9 ⟨rfl, hB, hb⟩; have hx := hb.blk HX8.out (by decide) hbx; obtain ⟨y0, y1, y2, y3, y4, y5, y6, yz⟩ := part_all hx; rw [hk4] at y0; have HX9 := Lib.hid hx; have HB9 := Lib.hid hB; have HK9 := Lib.hid (HK8.out.trans hb); have hq := hb.blk HC8.out (by decide) hbc; obtain ⟨x0, x1, xz⟩ := case_cells hq; have HC9 := Lib.hid hq; clear hq; clear hB hb hx) | (go_at_call 55; refine (HIH.out c.2 true S _ b _ B _ (HEW.out _ (HKW.out.trans (HKR.out.trans HK9.out))) hBb (HLC _ HK9.out) HS.out HB9.out hoc (by omega) (by first | omega | ((repeat rw [List.length_append]); (repeat rw [size_len]); (repeat rw [List.length_singleton]); omega))).mono ?_; rintro e wA ⟨rfl, hB, hb⟩; have hx := hb.blk HX9.out (by decide) hbx; obtain ⟨y0, y1, y2, y3, y4, y5, y6, yz⟩ := part_all hx; rw [hk4] at y0; have HXA := Lib.hid hx; have HBA := Lib.hid hB; have HKA := Lib.hid (HK9.out.trans hb); have hq := hb.blk HC9.out (by decide) hbc; obtain ⟨x0, x1, xz⟩ := case_cells hq; have HCA := Lib.hid hq; clear hq; clear hB hb hx) | (go_at_call_of 86 (Value.int .u8 125); refine (bw_byte 125 (by omega) (by omega) HBA.out (by first | omega | ((repeat rw [List.length_append]); (repeat rw [size_len]); (repeat rw [List.length_singleton]); omega))).mono ?_; rintro e wB ⟨rfl, hB, hb⟩; have hx := hb.blk HXA.out (by decide) hbx; obtain ⟨y0, y1, y2, y3, y4, y5, y6, yz⟩ := part_all hx; rw [hk4] at y0; have HXB := Lib.hid hx; have HBB := Lib.hid hB; have HKB := Lib.hid (HKA.out.trans hb); have hq := hb.blk HCA.out (by decide) hbc; obtain ⟨x0, x1, xz⟩ := case_cells hq; have HCB := Lib.hid hq; clear hq; clear hB hb hx))
                        go_roundw
                        case rel => exact ⟨j + 1, by omega, by go_num, by have hs := HSN.out; have gk := GK.out; rw [if_neg HJ.out] at hs; rw [hs]; have hz := HBB.out; rw [gk] at hz; simpa using hz, HKR.out.trans HKB.out, HXB.out⟩
                        case measure => simp [intOf]; omega
                    · obtain rfl : j = p.cs.length := by omega
                      rw [List.take_length] at hB
                      have HB7 := Lib.hid hB
                      have HX7 := Lib.hid hX
                      have HK7 := Lib.hid (BK2.refl b wr)
                      have HKR := Lib.hid hK
                      have hcl4 := caseW_lenO n true false p.cs HOC.out
                      clear hB hX hK
                      go_wp2_with ((go_at_call_of 86 (Value.int .u8 125); refine (bw_byte 125 (by omega) (by omega) HB7.out (by first | omega | ((repeat rw [List.length_append]); (repeat rw [size_len]); (repeat rw [List.length_singleton]); omega))).mono ?_; rintro e w8 ⟨rfl, hB, hb⟩; have hx := hb.blk HX7.out (by decide) hbx; obtain ⟨y0, y1, y2, y3, y4, y5, y6, yz⟩ := part_all hx; rw [hk4] at y0; have HX8 := Lib.hid hx; have HB8 := Lib.hid hB; have HK8 := Lib.hid (HK7.out.trans hb); clear hB hb hx))
                      go_roundw
                      case rel => exact ⟨k + 1, by omega, by go_num, HFIN.out _ (by have hz := HB8.out; rw [← HAD.out] at hz; simpa using hz) (HKW.out.trans (HKR.out.trans HK8.out))⟩
                      case measure => simp [intOf]; omega
            · have hpw : partW (writeF n) h p = [] := by unfold partW; rw [if_neg hk1, if_neg hk2, if_neg hk3, if_neg hk4]
              rw [hpw] at HFIN
              have k4 : (p.k == 4) = false := by simp; omega
              have k5 : (p.k == 5) = false := by simp; omega
              have k6 : (p.k == 6) = false := by simp; omega
              clear hpw hk4 hk1 hk2 hk3
              go_wp2
              go_roundw
              case rel => exact ⟨k + 1, by omega, by go_num, HFIN.out _ (by simpa using HB1.out) HK1.out⟩
              case measure => simp [intOf]; omega
    · obtain rfl : k = l.length := by omega
      go_wp2
      go_end0
      have hB := HBr.out
      rw [List.take_length, HOUT.out] at hB
      exact ⟨rfl, hB, HK.out⟩
/-- write is right at every depth. -/
theorem write_any : ∀ n, WriteC n
  | 0 => fun _ _ _ _ _ _ _ _ _ _ h => h.elim
  | n + 1 => write_step n (write_any n)
end Go.Proofs.YtmfoiceofhcicaaGreatDoor
