/- Walks: vernacularref19.Form: parts in their one form. -/
import Derived.Test.YtjldgcpmdcoejaaGreatDoorPZ
import Derived.Test.YtjldgcpmdcoejaaGreatDoorQK
namespace Go.Proofs.YtjldgcpmdcoejaaGreatDoor
open Go.RowKit

def kindOK (p : PT) : Prop := offOK p ∧ 1 ≤ p.k ∧ p.k ≤ 6
theorem allK_off : ∀ (n : Nat) (l : List PT), allO kindOK n l → allO offOK n l
  | 0, _, _ => trivial
  | n + 1, _, h => fun p hp => ⟨(h p hp).1.1, fun c hc => allK_off n c.2 ((h p hp).2 c hc)⟩
theorem writeL_take_len (n : Nat) (h : Bool) (l : List PT) (k : Nat) (p : PT) (hp : l[k]? = some p) (ho : allO offOK (n + 1) l) :
    (writeL (writeF n) h (l.take k)).length + 100 * (1 + p.tx.size + p.nm.size + p.ty.size + p.st.size + bulkC (bulkF n) p.cs) ≤ 100 * bulkL (bulkF n) l := by
  have h1 : (writeL (writeF n) h (l.take k)).length ≤ 100 * bulkL (bulkF n) (l.take k) := allO_len (n + 1) (l.take k) h (fun q hq => ho q (List.mem_of_mem_take hq))
  have h2 : bulkL (bulkF n) l = bulkL (bulkF n) (l.take k) + bulkL (bulkF n) (l.drop k) := by rw [← bulkL_append, List.take_append_drop]
  have h3 := bulkL_at (bulkF n) (l.drop k) 0 p (by simpa using hp)
  omega
theorem part_read {w : World} {b : Nat} {a0 a1 a2 a3 a4 a5 a6 : Value} (h : Blk w b 47 #[a0, a1, a2, a3, a4, a5, a6]) :
    w.cell? ⟨b, 0, none⟩ = some a0 ∧ w.cell? ⟨b, 1, none⟩ = some a1 ∧ w.cell? ⟨b, 2, none⟩ = some a2 ∧ w.cell? ⟨b, 3, none⟩ = some a3 ∧ w.cell? ⟨b, 4, none⟩ = some a4 ∧ w.cell? ⟨b, 5, none⟩ = some a5 ∧ w.cell? ⟨b, 6, none⟩ = some a6 :=
  ⟨h.cell_eq rfl, h.cell_eq rfl, h.cell_eq rfl, h.cell_eq rfl, h.cell_eq rfl, h.cell_eq rfl, h.cell_eq rfl⟩
/-- What the test of a case leaves standing. -/
theorem FK_step {W1 W w' : World} {a b : Addr} {c d : Addr} {va vb vc vd : Value} (h : W.cell? a = some va ∧ W.cell? b = some vb ∧ W.cell? c = some vc ∧ W.cell? d = some vd ∧ Keep [] W1 W) (hk : Keep [] W w')
    (ha : a.block < W1.heap.size) (hb : b.block < W1.heap.size) (hc : c.block < W1.heap.size) (hd : d.block < W1.heap.size) :
    w'.cell? a = some va ∧ w'.cell? b = some vb ∧ w'.cell? c = some vc ∧ w'.cell? d = some vd ∧ Keep [] W1 w' :=
  have hs := h.2.2.2.2.size
  ⟨(hk.cell (Nat.lt_of_lt_of_le ha hs) (by simp)).trans h.1, (hk.cell (Nat.lt_of_lt_of_le hb hs) (by simp)).trans h.2.1, (hk.cell (Nat.lt_of_lt_of_le hc hs) (by simp)).trans h.2.2.1, (hk.cell (Nat.lt_of_lt_of_le hd hs) (by simp)).trans h.2.2.2.1, h.2.2.2.2.nil hk⟩
/-- vernacularref19.Form is right, n deep. -/
def Form19C (n : Nat) : Prop := ∀ (l : List PT) (h : Bool) (S : Nat → Prop) (v : Value) (w : World), Lies n S w v l → allO kindOK n l → bulkF n l ≤ 10000000 →
    Calls Tryz.prog 14 #[v, .bool h] w fun e w' => e = .returned (.string ⟨(writeF n l h).toArray⟩) ∧ Keep [] w w'
set_option maxRecDepth 100000 in
set_option maxHeartbeats 16000000 in
/-- vernacularref19.Form: a step deeper. -/
theorem form19_step (n : Nat) (ih : Form19C n) : Form19C (n + 1) := by
    intro l h S v w hL ho hb
    obtain ⟨A, cap, rfl, hml, hat⟩ := lies_open hL
    have HAT := Lib.hid hat
    have HIH := Lib.hid ih
    have hll : l.length ≤ 1000000000 := by have := bulkL_len (bulkF n) l; simp only [bulkF] at hb; omega
    have HB := Lib.hid hb
    have HO := Lib.hid ho
    have HOF := Lib.hid (allK_off (n + 1) l ho)
    have q1 : (⟨#[123]⟩ : ByteArray).size = 1 := rfl
    have q2 : (⟨#[44, 32]⟩ : ByteArray).size = 2 := rfl
    have q3 : (⟨#[32]⟩ : ByteArray).size = 1 := rfl
    have q4 : (⟨#[125]⟩ : ByteArray).size = 1 := rfl
    have q5 : (⟨#[35]⟩ : ByteArray).size = 1 := rfl
    clear hL hat hml hb ho
    go_enter Tryz.func14, Tryz.ntmps14
    go_wp2
    go_loopw [5, 6] (fun t i wr => ∃ (k : Nat) (T : ByteArray), k ≤ l.length ∧ i = .int .i64 k ∧ t = .string T ∧ T.data.toList = writeL (writeF n) h (l.take k) ∧ Keep [] w wr) (fun _ i _ => l.length - (intOf i).toNat)
    case atStart => exact ⟨0, ⟨#[]⟩, Nat.zero_le _, rfl, rfl, by simp [writeL], Keep.refl _ _⟩
    case round =>
      obtain ⟨k, T, hk, rfl, rfl, hT, hK⟩ := hrel
      have HK := Lib.hid hK
      clear hK
      by_cases hlt : k < l.length
      · obtain ⟨p, hp⟩ : ∃ p, l[k]? = some p := ⟨_, List.getElem?_eq_getElem hlt⟩
        obtain ⟨b, o, cv, rfl, hb, hP, hC⟩ := HAT.out k p hp
        obtain ⟨a0, a1, a2, a3, a4, a5, a6⟩ := hP.keep HK.out hb
        have hC1 := hC.keep HK.out (by simp)
        obtain ⟨Ac, cc, rfl⟩ := hC1.formL
        have hS1 : writeL (writeF n) h (l.take (k + 1)) = writeL (writeF n) h (l.take k) ++ partW (writeF n) h p := by rw [take_snoc' hp, writeL_append]; simp [writeL]
        have hlen := writeL_take_len n h l k p hp HOF.out
        have hTl := congrArg List.length hT
        rw [size_len] at hTl
        have hbk := bulkL_at (bulkF n) l k p hp
        have hbL : bulkL (bulkF n) l ≤ 10000000 := HB.out
        obtain ⟨⟨hop, hk1, hk6⟩, hco⟩ := HO.out p (List.mem_of_getElem? hp)
        have hcl : p.cs.length ≤ 1000000000 := by have := bulkC_len (bulkF n) p.cs; omega
        have hbr := Nat.lt_of_lt_of_le hb HK.out.size
        have hKx : Keep [] wr (wr.alloc (.cells #[.int .i64 p.k, .string p.tx, .string p.nm, .string p.ty, .string p.st, .int .i64 p.off, .slice Ac p.cs.length cc] 47)) := (Keep.refl [] wr).alloc _
        have HX0 : Hid (Blk (wr.alloc (.cells #[.int .i64 p.k, .string p.tx, .string p.nm, .string p.ty, .string p.st, .int .i64 p.off, .slice Ac p.cs.length cc] 47)) wr.heap.size 47 #[.int .i64 p.k, .string p.tx, .string p.nm, .string p.ty, .string p.st, .int .i64 p.off, .slice Ac p.cs.length cc]) := Blk.new _ _ _
        have HKX0 := Lib.hid (HK.out.nil hKx)
        obtain ⟨A2, cap2, he, _, hcat⟩ := liesC_open (hC1.keep hKx (by simp))
        injection he with he1 he2 he3
        subst he1; subst he3
        have HCAT := Lib.hid hcat
        clear hP hC hC1 hp hcat hKx
        obtain hkk | hkk | hkk | hkk : p.k = 1 ∨ p.k = 2 ∨ p.k = 3 ∨ (4 ≤ p.k ∧ p.k ≤ 6) := by omega
        · rw [hkk] at a0
          have HDR : ∀ W, Hid (Calls Tryz.prog 17 #[.string p.tx, .bool h] W fun e w' => e = .returned (.string ⟨(dressL h p.tx.data.toList).toArray⟩) ∧ Keep [] W w') := fun W => dress19_any p.tx h W (by omega)
          have hdl := dressL_len h p.tx.data.toList
          rw [size_len] at hdl
          have f1 : (⟨(dressL h p.tx.data.toList).toArray⟩ : ByteArray).data.toList = partW (writeF n) h p := by unfold partW; rw [if_pos hkk]
          have f2 : (⟨(dressL h p.tx.data.toList).toArray⟩ : ByteArray).size = (dressL h p.tx.data.toList).length := toArr_size _
          generalize (⟨(dressL h p.tx.data.toList).toArray⟩ : ByteArray) = D at *
          obtain ⟨X1, z1, g1, HA1⟩ := add_run T D (by omega)
          have HE : Hid (X1.data.toList = writeL (writeF n) h (l.take (k + 1))) := by unfold Hid; rw [g1, f1, hT, hS1]
          rw [hkk] at HKX0
          clear hS1 g1 f1 hT
          go_wp2_with (go_at_call 17; refine (HDR _).out.mono ?_; rintro e w3 ⟨rfl, hk3⟩; have HK3 := Lib.hid hk3; clear hk3)
          go_roundw
          case rel => exact ⟨k + 1, X1, by omega, by go_num, rfl, HE.out, HKX0.out.nil HK3.out⟩
          case measure => simp [intOf]; omega
        · rw [hkk] at a0 HKX0
          obtain ⟨X1, z1, g1, HA1⟩ := add_run T ⟨#[35]⟩ (by rw [q5]; omega)
          have HE : Hid (X1.data.toList = writeL (writeF n) h (l.take (k + 1))) := by unfold Hid; rw [g1, hT, hS1]; unfold partW; rw [if_neg (by omega), if_pos hkk]
          clear hS1 g1 hT
          go_wp2
          go_roundw
          case rel => exact ⟨k + 1, X1, by omega, by go_num, rfl, HE.out, HKX0.out⟩
          case measure => simp [intOf]; omega
        · rw [hkk] at a0 HKX0
          obtain ⟨X1, z1, g1, HA1⟩ := add_run T ⟨#[123]⟩ (by rw [q1]; omega)
          obtain ⟨X2, z2, g2, HA2⟩ := add_run X1 p.nm (by rw [q1] at z1; omega)
          rw [q1] at z1
          have hW : partW (writeF n) h p = [123] ++ p.nm.data.toList ++ (if noB p.ty then [] else [44, 32] ++ p.ty.data.toList) ++ (if noB p.st then [] else [44, 32] ++ p.st.data.toList) ++ [125] := by
            unfold partW; rw [if_neg (by omega), if_neg (by omega), if_pos hkk]
          rw [hW, ← emp'' p.ty, ← emp'' p.st] at hS1
          clear hW
          cases hty : p.ty.toList.isEmpty
          · have hty' : ¬ p.ty.toList = [] := by intro h; rw [h] at hty; cases hty
            obtain ⟨X3, z3, g3, HA3⟩ := add_run X2 ⟨#[44, 32]⟩ (by rw [q2]; omega)
            obtain ⟨X4, z4, g4, HA4⟩ := add_run X3 p.ty (by rw [q2] at z3; omega)
            rw [q2] at z3
            cases hst : p.st.toList.isEmpty
            · have hst' : ¬ p.st.toList = [] := by intro h; rw [h] at hst; cases hst
              obtain ⟨X5, z5, g5, HA5⟩ := add_run X4 ⟨#[44, 32]⟩ (by rw [q2]; omega)
              obtain ⟨X6, z6, g6, HA6⟩ := add_run X5 p.st (by rw [q2] at z5; omega)
              rw [q2] at z5
              obtain ⟨X7, z7, g7, HA7⟩ := add_run X6 ⟨#[125]⟩ (by rw [q4]; omega)
              have HE : Hid (X7.data.toList = writeL (writeF n) h (l.take (k + 1))) := by unfold Hid; rw [g7, g6, g5, g4, g3, g2, g1, hT, hS1, hty, hst]; simp
              clear hS1 g1 g2 g3 g4 g5 g6 g7 hT
              go_wp2
              go_roundw
              case rel => exact ⟨k + 1, X7, by omega, by go_num, rfl, HE.out, HKX0.out⟩
              case measure => simp [intOf]; omega
            · have hst' : p.st.toList = [] := List.isEmpty_iff.1 hst
              obtain ⟨X7, z7, g7, HA7⟩ := add_run X4 ⟨#[125]⟩ (by rw [q4]; omega)
              have HE : Hid (X7.data.toList = writeL (writeF n) h (l.take (k + 1))) := by unfold Hid; rw [g7, g4, g3, g2, g1, hT, hS1, hty, hst]; simp
              clear hS1 g1 g2 g3 g4 g7 hT
              go_wp2
              go_roundw
              case rel => exact ⟨k + 1, X7, by omega, by go_num, rfl, HE.out, HKX0.out⟩
              case measure => simp [intOf]; omega
          · have hty' : p.ty.toList = [] := List.isEmpty_iff.1 hty
            cases hst : p.st.toList.isEmpty
            · have hst' : ¬ p.st.toList = [] := by intro h; rw [h] at hst; cases hst
              obtain ⟨X5, z5, g5, HA5⟩ := add_run X2 ⟨#[44, 32]⟩ (by rw [q2]; omega)
              obtain ⟨X6, z6, g6, HA6⟩ := add_run X5 p.st (by rw [q2] at z5; omega)
              rw [q2] at z5
              obtain ⟨X7, z7, g7, HA7⟩ := add_run X6 ⟨#[125]⟩ (by rw [q4]; omega)
              have HE : Hid (X7.data.toList = writeL (writeF n) h (l.take (k + 1))) := by unfold Hid; rw [g7, g6, g5, g2, g1, hT, hS1, hty, hst]; simp
              clear hS1 g1 g2 g5 g6 g7 hT
              go_wp2
              go_roundw
              case rel => exact ⟨k + 1, X7, by omega, by go_num, rfl, HE.out, HKX0.out⟩
              case measure => simp [intOf]; omega
            · have hst' : p.st.toList = [] := List.isEmpty_iff.1 hst
              obtain ⟨X7, z7, g7, HA7⟩ := add_run X2 ⟨#[125]⟩ (by rw [q4]; omega)
              have HE : Hid (X7.data.toList = writeL (writeF n) h (l.take (k + 1))) := by unfold Hid; rw [g7, g2, g1, hT, hS1, hty, hst]; simp
              clear hS1 g1 g2 g7 hT
              go_wp2
              go_roundw
              case rel => exact ⟨k + 1, X7, by omega, by go_num, rfl, HE.out, HKX0.out⟩
              case measure => simp [intOf]; omega
        · have e1 : (p.k == 1) = false := by simp; omega
          have e2 : (p.k == 2) = false := by simp; omega
          have e3 : (p.k == 3) = false := by simp; omega
          have HW : ∀ W, Hid (Calls Tryz.prog 28 #[.int .i64 p.k] W fun e w' => e = .returned (.string (wordB p.k)) ∧ W = w') := fun W => word19_any p.k W
          have qw := wordB_len p.k
          rw [size_len] at qw
          obtain ⟨X1, z1, g1, HA1⟩ := add_run T ⟨#[123]⟩ (by rw [q1]; omega)
          obtain ⟨X2, z2, g2, HA2⟩ := add_run X1 p.nm (by rw [q1] at z1; omega)
          obtain ⟨X3, z3, g3, HA3⟩ := add_run X2 ⟨#[44, 32]⟩ (by rw [q1] at z1; rw [q2]; omega)
          obtain ⟨X4, z4, g4, HA4⟩ := add_run X3 (wordB p.k) (by rw [q1] at z1; rw [q2] at z3; omega)
          obtain ⟨X5, z5, g5, HA5⟩ := add_run X4 ⟨#[44, 32]⟩ (by rw [q1] at z1; rw [q2] at z3; rw [q2]; omega)
          rw [q1] at z1
          rw [q2] at z3 z5
          have HKX := HKX0
          have HX1 := HX0
          have hx1 := HX1.out
          have hbx := hx1.lt
          obtain ⟨y0, y1, y2, y3, y4, y5, y6⟩ := part_read hx1
          have HXX := Lib.hid hx1
          clear hx1
          have HOC := Lib.hid hco
          have HOO : Hid (∀ c ∈ p.cs, allO offOK n c.2) := fun c hc => allK_off n c.2 (hco c hc)
          have hWP : partW (writeF n) h p = [123] ++ p.nm.data.toList ++ [44, 32] ++ (wordB p.k).data.toList ++ [44, 32] ++ (if p.off = 0 then [] else offW ++ Lib.itoa p.off ++ [32]) ++ caseW (fun m => writeF n m (decide (p.k ≠ 4))) false p.cs ++ [125] := by
            unfold partW
            rw [if_neg (by omega), if_neg (by omega), if_neg (by omega), if_pos (by omega)]
          obtain ⟨g, hg⟩ : ∃ g, decide (p.k ≠ 4) = g := ⟨_, rfl⟩
          have hg4 : (p.k != 4) = g := by rw [← hg, Bool.eq_iff_iff]; simp
          rw [hg] at hWP
          rw [hWP] at hS1
          generalize wordB p.k = wd at *
          by_cases ho0 : p.off = 0
          · have HFIN : Hid (writeL (writeF n) h (l.take (k + 1)) = X5.data.toList ++ caseW (fun m => writeF n m g) false p.cs ++ [125]) := by
              unfold Hid
              rw [hS1, g5, g4, g3, g2, g1, hT, if_pos ho0]
              simp
            have ho1 : (p.off == 0) = true := by simpa using ho0
            have ho2 : (p.off != 0) = false := by simpa using ho0
            clear hT hS1 g1 g2 g3 g4 g5 ho0 hco hWP hg
            go_wp2_with (first | (go_at_call 28; refine (HW _).out.mono ?_; rintro e w3 ⟨rfl, rfl⟩))
            have hx1 := HXX.out
            generalize hGW : wr.alloc (.cells #[.int .i64 p.k, .string p.tx, .string p.nm, .string p.ty, .string p.st, .int .i64 p.off, .slice Ac p.cs.length cc] 47) = W1 at *
            clear y0 y1 y2 y3 y4 y5 y6 a1 a2 a3 a4 a5 a6 hGW
            generalize wr.heap.size = bx at *
            go_loopw [5, 8] (fun t i wx => ∃ (j : Nat) (u : ByteArray), j ≤ p.cs.length ∧ i = .int .i64 j ∧ t = .string u ∧ u.data.toList = X5.data.toList ++ caseW (fun m => writeF n m g) false (p.cs.take j) ∧ Keep [] W1 wx) (fun _ i _ => p.cs.length - (intOf i).toNat)
            case atStart => exact ⟨0, X5, Nat.zero_le _, rfl, rfl, by simp [caseW], Keep.refl _ _⟩
            case round =>
              obtain ⟨j, u, hj, rfl, rfl, hu, hKi⟩ := hrel
              have HKi := Lib.hid hKi
              have hX := hx1.keep hKi (by simp)
              clear hKi
              by_cases hlt2 : j < p.cs.length
              · obtain ⟨c, hc⟩ : ∃ c, p.cs[j]? = some c := ⟨_, List.getElem?_eq_getElem hlt2⟩
                obtain ⟨b2, o2, pv, rfl, hb2, e1, e2, hL⟩ := HCAT.out j c hc
                have e1' := (HKi.out.cell (p := ⟨b2, o2 + j * 2, none⟩) hb2 (by simp)).trans e1
                have e2' := (HKi.out.cell (p := ⟨b2, o2 + j * 2 + 1, none⟩) hb2 (by simp)).trans e2
                obtain ⟨Ap, mp, kp, rfl⟩ := hL.form
                have hsn := caseW_snoc (fun m => writeF n m g) p.cs j c hc
                have hoc := HOC.out c (List.mem_of_getElem? hc)
                have hoo := allK_off n c.2 hoc
                have hcl3 := caseW_take_len n g p.cs j c hc HOO.out
                have hwc := allO_len n c.2 g hoo
                have hbc := bulkC_at (bulkF n) p.cs j c hc
                have hul := congrArg List.length hu
                rw [List.length_append, size_len, size_len] at hul
                have hIH : ∀ W, Keep [] W1 W → Calls Tryz.prog 14 #[.slice Ap mp kp, .bool g] W fun e w' => e = .returned (.string ⟨(writeF n c.2 g).toArray⟩) ∧ Keep [] W w' := fun W hW => HIH.out c.2 g S _ W (hL.keep hW (by simp)) hoc (by omega)
                have HI := Lib.hid hIH
                have f1 : (⟨(writeF n c.2 g).toArray⟩ : ByteArray).data.toList = writeF n c.2 g := rfl
                have f2 : (⟨(writeF n c.2 g).toArray⟩ : ByteArray).size = (writeF n c.2 g).length := toArr_size _
                rw [← f1] at hsn
                generalize (⟨(writeF n c.2 g).toArray⟩ : ByteArray) = F at *
                have y0 : wr.cell? ⟨bx, 0, none⟩ = some (.int .i64 p.k) := hX.cell_eq rfl
                have y6 : wr.cell? ⟨bx, 6, none⟩ = some (.slice (some ⟨b2, o2, none⟩) p.cs.length cc) := hX.cell_eq rfl
                have hb2r := Nat.lt_of_lt_of_le hb2 HKi.out.size
                have hbxr := hX.lt
                by_cases hj0 : j = 0
                · have hj1 : ¬ ((0 : Int) < (j : Int)) := by omega
                  rw [if_pos hj0] at hsn
                  obtain ⟨U1, r1, s1, HU1⟩ := add_run u c.1 (by omega)
                  obtain ⟨U2, r2, s2, HU2⟩ := add_run U1 ⟨#[123]⟩ (by rw [q1]; omega)
                  obtain ⟨U3, r3, s3, HU3⟩ := add_run U2 F (by omega)
                  obtain ⟨U4, r4, s4, HU4⟩ := add_run U3 ⟨#[125]⟩ (by rw [q4]; omega)
                  have HE : Hid (U4.data.toList = X5.data.toList ++ caseW (fun m => writeF n m g) false (p.cs.take (j + 1))) := by
                    unfold Hid
                    rw [s4, s3, s2, s1, hu, hsn]
                    simp
                  clear hsn hc e1 e2 hL hIH hu s1 s2 s3 s4 f1 hul hX hj0
                  go_wp2
                  go_region_held3 (fun W => W.cell? ⟨bx, 0, none⟩ = some (.int .i64 p.k) ∧ W.cell? ⟨bx, 6, none⟩ = some (.slice (some ⟨b2, o2, none⟩) p.cs.length cc) ∧ W.cell? ⟨b2, o2 + j * 2, none⟩ = some (.string c.1) ∧ W.cell? ⟨b2, o2 + j * 2 + 1, none⟩ = some (.slice Ap mp kp) ∧ Keep [] W1 W) (first | exact ⟨y0, y6, e1', e2', HKi.out.drew⟩ | exact FK_step (W := World.drew wr) ⟨y0, y6, e1', e2', HKi.out.drew⟩ HK9.out hbx hbx hb2 hb2) ((go_at_call 14; refine (HI.out _ (by repeat (first | exact HKi.out | refine Keep.drew ?_ | refine Keep.drewN ?_ _))).mono ?_; rintro e w9 ⟨rfl, hk9⟩; have HK9 := Lib.hid hk9; clear hk9))
                  go_wp2
                  go_roundw
                  case rel => exact ⟨j + 1, U4, by omega, by go_num, rfl, HE.out, HKi.out.drew.nil HK9.out⟩
                  case measure => simp [intOf]; omega
                · have hj1 : (0 : Int) < (j : Int) := by omega
                  rw [if_neg hj0] at hsn
                  obtain ⟨U0, r0, s0, HU0⟩ := add_run u ⟨#[32]⟩ (by rw [q3]; omega)
                  obtain ⟨U1, r1, s1, HU1⟩ := add_run U0 c.1 (by rw [q3] at r0; omega)
                  obtain ⟨U2, r2, s2, HU2⟩ := add_run U1 ⟨#[123]⟩ (by rw [q3] at r0; rw [q1]; omega)
                  obtain ⟨U3, r3, s3, HU3⟩ := add_run U2 F (by rw [q3] at r0; rw [q1] at r2; omega)
                  obtain ⟨U4, r4, s4, HU4⟩ := add_run U3 ⟨#[125]⟩ (by rw [q3] at r0; rw [q1] at r2; rw [q4]; omega)
                  have HE : Hid (U4.data.toList = X5.data.toList ++ caseW (fun m => writeF n m g) false (p.cs.take (j + 1))) := by
                    unfold Hid
                    rw [s4, s3, s2, s1, s0, hu, hsn]
                    simp
                  clear hsn hc e1 e2 hL hIH hu s0 s1 s2 s3 s4 f1 hul hX hj0
                  go_wp2
                  go_region_held3 (fun W => W.cell? ⟨bx, 0, none⟩ = some (.int .i64 p.k) ∧ W.cell? ⟨bx, 6, none⟩ = some (.slice (some ⟨b2, o2, none⟩) p.cs.length cc) ∧ W.cell? ⟨b2, o2 + j * 2, none⟩ = some (.string c.1) ∧ W.cell? ⟨b2, o2 + j * 2 + 1, none⟩ = some (.slice Ap mp kp) ∧ Keep [] W1 W) (first | exact ⟨y0, y6, e1', e2', HKi.out.drew⟩ | exact FK_step (W := World.drew wr) ⟨y0, y6, e1', e2', HKi.out.drew⟩ HK9.out hbx hbx hb2 hb2) ((go_at_call 14; refine (HI.out _ (by repeat (first | exact HKi.out | refine Keep.drew ?_ | refine Keep.drewN ?_ _))).mono ?_; rintro e w9 ⟨rfl, hk9⟩; have HK9 := Lib.hid hk9; clear hk9))
                  go_wp2
                  go_roundw
                  case rel => exact ⟨j + 1, U4, by omega, by go_num, rfl, HE.out, HKi.out.drew.nil HK9.out⟩
                  case measure => simp [intOf]; omega
              · obtain rfl : j = p.cs.length := by omega
                rw [List.take_length] at hu
                have hul := congrArg List.length hu
                rw [List.length_append, size_len, size_len] at hul
                have hcw := caseW_lenO n g false p.cs HOO.out
                obtain ⟨V, v1, v2, HV⟩ := add_run u ⟨#[125]⟩ (by rw [q4]; omega)
                have HE : Hid (V.data.toList = writeL (writeF n) h (l.take (k + 1))) := by
                  unfold Hid
                  rw [v2, hu, HFIN.out]
                have y6 : wr.cell? ⟨bx, 6, none⟩ = some (.slice Ac p.cs.length cc) := hX.cell_eq rfl
                have hbxr := hX.lt
                clear v2 hu hul hX
                go_wp2
                go_roundw
                case rel => exact ⟨k + 1, V, by omega, by go_num, rfl, HE.out, HKX.out.nil HKi.out⟩
                case measure => simp [intOf]; omega
          · have hdg : Lib.itoa p.off = Lib.decDigits p.off.toNat := by unfold Lib.itoa; rw [if_neg (by have := hop.1; omega)]
            have HDG : ∀ W, Hid (Calls Tryz.prog 29 #[.int .i64 p.off] W fun e w' => e = .returned (.string ⟨(Lib.decDigits p.off.toNat).toArray⟩) ∧ W = w') := fun W => by
              have := digits19_any p.off.toNat W (by have := hop.2; omega)
              rw [Int.toNat_of_nonneg hop.1] at this
              exact this
            have hi1 : (⟨(Lib.decDigits p.off.toNat).toArray⟩ : ByteArray).size ≤ 21 := by have := itoa_off hop; rw [toArr_size, ← hdg]; exact this
            have hi2 : (⟨(Lib.decDigits p.off.toNat).toArray⟩ : ByteArray).data.toList = Lib.itoa p.off := by rw [hdg]
            generalize (⟨(Lib.decDigits p.off.toNat).toArray⟩ : ByteArray) = I1 at *
            have qo : (⟨#[111, 102, 102, 115, 101, 116, 58]⟩ : ByteArray).size = 7 := rfl
            obtain ⟨Y1, zy1, gy1, HY1⟩ := add_run X5 ⟨#[111, 102, 102, 115, 101, 116, 58]⟩ (by rw [qo]; omega)
            obtain ⟨Y2, zy2, gy2, HY2⟩ := add_run Y1 I1 (by rw [qo] at zy1; omega)
            obtain ⟨Y3, zy3, gy3, HY3⟩ := add_run Y2 ⟨#[32]⟩ (by rw [qo] at zy1; rw [q3]; omega)
            rw [qo] at zy1
            rw [q3] at zy3
            have HFIN : Hid (writeL (writeF n) h (l.take (k + 1)) = Y3.data.toList ++ caseW (fun m => writeF n m g) false p.cs ++ [125]) := by
              unfold Hid
              rw [hS1, gy3, gy2, gy1, hi2, g5, g4, g3, g2, g1, hT, if_neg ho0]
              simp [offW]
            have ho1 : (p.off == 0) = false := by simpa using ho0
            have ho2 : (p.off != 0) = true := by simpa using ho0
            clear hT hS1 g1 g2 g3 g4 g5 gy1 gy2 gy3 hi2 hdg ho0 hco hWP hg
            go_wp2_with (first | (go_at_call 28; refine (HW _).out.mono ?_; rintro e w3 ⟨rfl, rfl⟩) | (go_at_call 29; refine (HDG _).out.mono ?_; rintro e w3 ⟨rfl, rfl⟩))
            have hx1 := HXX.out
            generalize hGW : wr.alloc (.cells #[.int .i64 p.k, .string p.tx, .string p.nm, .string p.ty, .string p.st, .int .i64 p.off, .slice Ac p.cs.length cc] 47) = W1 at *
            clear y0 y1 y2 y3 y4 y5 y6 a1 a2 a3 a4 a5 a6 hGW
            generalize wr.heap.size = bx at *
            go_loopw [5, 8] (fun t i wx => ∃ (j : Nat) (u : ByteArray), j ≤ p.cs.length ∧ i = .int .i64 j ∧ t = .string u ∧ u.data.toList = Y3.data.toList ++ caseW (fun m => writeF n m g) false (p.cs.take j) ∧ Keep [] W1 wx) (fun _ i _ => p.cs.length - (intOf i).toNat)
            case atStart => exact ⟨0, Y3, Nat.zero_le _, rfl, rfl, by simp [caseW], Keep.refl _ _⟩
            case round =>
              obtain ⟨j, u, hj, rfl, rfl, hu, hKi⟩ := hrel
              have HKi := Lib.hid hKi
              have hX := hx1.keep hKi (by simp)
              clear hKi
              by_cases hlt2 : j < p.cs.length
              · obtain ⟨c, hc⟩ : ∃ c, p.cs[j]? = some c := ⟨_, List.getElem?_eq_getElem hlt2⟩
                obtain ⟨b2, o2, pv, rfl, hb2, e1, e2, hL⟩ := HCAT.out j c hc
                have e1' := (HKi.out.cell (p := ⟨b2, o2 + j * 2, none⟩) hb2 (by simp)).trans e1
                have e2' := (HKi.out.cell (p := ⟨b2, o2 + j * 2 + 1, none⟩) hb2 (by simp)).trans e2
                obtain ⟨Ap, mp, kp, rfl⟩ := hL.form
                have hsn := caseW_snoc (fun m => writeF n m g) p.cs j c hc
                have hoc := HOC.out c (List.mem_of_getElem? hc)
                have hoo := allK_off n c.2 hoc
                have hcl3 := caseW_take_len n g p.cs j c hc HOO.out
                have hwc := allO_len n c.2 g hoo
                have hbc := bulkC_at (bulkF n) p.cs j c hc
                have hul := congrArg List.length hu
                rw [List.length_append, size_len, size_len] at hul
                have hIH : ∀ W, Keep [] W1 W → Calls Tryz.prog 14 #[.slice Ap mp kp, .bool g] W fun e w' => e = .returned (.string ⟨(writeF n c.2 g).toArray⟩) ∧ Keep [] W w' := fun W hW => HIH.out c.2 g S _ W (hL.keep hW (by simp)) hoc (by omega)
                have HI := Lib.hid hIH
                have f1 : (⟨(writeF n c.2 g).toArray⟩ : ByteArray).data.toList = writeF n c.2 g := rfl
                have f2 : (⟨(writeF n c.2 g).toArray⟩ : ByteArray).size = (writeF n c.2 g).length := toArr_size _
                rw [← f1] at hsn
                generalize (⟨(writeF n c.2 g).toArray⟩ : ByteArray) = F at *
                have y0 : wr.cell? ⟨bx, 0, none⟩ = some (.int .i64 p.k) := hX.cell_eq rfl
                have y6 : wr.cell? ⟨bx, 6, none⟩ = some (.slice (some ⟨b2, o2, none⟩) p.cs.length cc) := hX.cell_eq rfl
                have hb2r := Nat.lt_of_lt_of_le hb2 HKi.out.size
                have hbxr := hX.lt
                by_cases hj0 : j = 0
                · have hj1 : ¬ ((0 : Int) < (j : Int)) := by omega
                  rw [if_pos hj0] at hsn
                  obtain ⟨U1, r1, s1, HU1⟩ := add_run u c.1 (by omega)
                  obtain ⟨U2, r2, s2, HU2⟩ := add_run U1 ⟨#[123]⟩ (by rw [q1]; omega)
                  obtain ⟨U3, r3, s3, HU3⟩ := add_run U2 F (by omega)
                  obtain ⟨U4, r4, s4, HU4⟩ := add_run U3 ⟨#[125]⟩ (by rw [q4]; omega)
                  have HE : Hid (U4.data.toList = Y3.data.toList ++ caseW (fun m => writeF n m g) false (p.cs.take (j + 1))) := by
                    unfold Hid
                    rw [s4, s3, s2, s1, hu, hsn]
                    simp
                  clear hsn hc e1 e2 hL hIH hu s1 s2 s3 s4 f1 hul hX hj0
                  go_wp2
                  go_region_held3 (fun W => W.cell? ⟨bx, 0, none⟩ = some (.int .i64 p.k) ∧ W.cell? ⟨bx, 6, none⟩ = some (.slice (some ⟨b2, o2, none⟩) p.cs.length cc) ∧ W.cell? ⟨b2, o2 + j * 2, none⟩ = some (.string c.1) ∧ W.cell? ⟨b2, o2 + j * 2 + 1, none⟩ = some (.slice Ap mp kp) ∧ Keep [] W1 W) (first | exact ⟨y0, y6, e1', e2', HKi.out.drew⟩ | exact FK_step (W := World.drew wr) ⟨y0, y6, e1', e2', HKi.out.drew⟩ HK9.out hbx hbx hb2 hb2) ((go_at_call 14; refine (HI.out _ (by repeat (first | exact HKi.out | refine Keep.drew ?_ | refine Keep.drewN ?_ _))).mono ?_; rintro e w9 ⟨rfl, hk9⟩; have HK9 := Lib.hid hk9; clear hk9))
                  go_wp2
                  go_roundw
                  case rel => exact ⟨j + 1, U4, by omega, by go_num, rfl, HE.out, HKi.out.drew.nil HK9.out⟩
                  case measure => simp [intOf]; omega
                · have hj1 : (0 : Int) < (j : Int) := by omega
                  rw [if_neg hj0] at hsn
                  obtain ⟨U0, r0, s0, HU0⟩ := add_run u ⟨#[32]⟩ (by rw [q3]; omega)
                  obtain ⟨U1, r1, s1, HU1⟩ := add_run U0 c.1 (by rw [q3] at r0; omega)
                  obtain ⟨U2, r2, s2, HU2⟩ := add_run U1 ⟨#[123]⟩ (by rw [q3] at r0; rw [q1]; omega)
                  obtain ⟨U3, r3, s3, HU3⟩ := add_run U2 F (by rw [q3] at r0; rw [q1] at r2; omega)
                  obtain ⟨U4, r4, s4, HU4⟩ := add_run U3 ⟨#[125]⟩ (by rw [q3] at r0; rw [q1] at r2; rw [q4]; omega)
                  have HE : Hid (U4.data.toList = Y3.data.toList ++ caseW (fun m => writeF n m g) false (p.cs.take (j + 1))) := by
                    unfold Hid
                    rw [s4, s3, s2, s1, s0, hu, hsn]
                    simp
                  clear hsn hc e1 e2 hL hIH hu s0 s1 s2 s3 s4 f1 hul hX hj0
                  go_wp2
                  go_region_held3 (fun W => W.cell? ⟨bx, 0, none⟩ = some (.int .i64 p.k) ∧ W.cell? ⟨bx, 6, none⟩ = some (.slice (some ⟨b2, o2, none⟩) p.cs.length cc) ∧ W.cell? ⟨b2, o2 + j * 2, none⟩ = some (.string c.1) ∧ W.cell? ⟨b2, o2 + j * 2 + 1, none⟩ = some (.slice Ap mp kp) ∧ Keep [] W1 W) (first | exact ⟨y0, y6, e1', e2', HKi.out.drew⟩ | exact FK_step (W := World.drew wr) ⟨y0, y6, e1', e2', HKi.out.drew⟩ HK9.out hbx hbx hb2 hb2) ((go_at_call 14; refine (HI.out _ (by repeat (first | exact HKi.out | refine Keep.drew ?_ | refine Keep.drewN ?_ _))).mono ?_; rintro e w9 ⟨rfl, hk9⟩; have HK9 := Lib.hid hk9; clear hk9))
                  go_wp2
                  go_roundw
                  case rel => exact ⟨j + 1, U4, by omega, by go_num, rfl, HE.out, HKi.out.drew.nil HK9.out⟩
                  case measure => simp [intOf]; omega
              · obtain rfl : j = p.cs.length := by omega
                rw [List.take_length] at hu
                have hul := congrArg List.length hu
                rw [List.length_append, size_len, size_len] at hul
                have hcw := caseW_lenO n g false p.cs HOO.out
                obtain ⟨V, v1, v2, HV⟩ := add_run u ⟨#[125]⟩ (by rw [q4]; omega)
                have HE : Hid (V.data.toList = writeL (writeF n) h (l.take (k + 1))) := by
                  unfold Hid
                  rw [v2, hu, HFIN.out]
                have y6 : wr.cell? ⟨bx, 6, none⟩ = some (.slice Ac p.cs.length cc) := hX.cell_eq rfl
                have hbxr := hX.lt
                clear v2 hu hul hX
                go_wp2
                go_roundw
                case rel => exact ⟨k + 1, V, by omega, by go_num, rfl, HE.out, HKX.out.nil HKi.out⟩
                case measure => simp [intOf]; omega
      · go_wp2
        go_ret
        obtain rfl : k = l.length := by omega
        exact ⟨by rw [List.take_length] at hT; rw [show (⟨(writeF (n + 1) l h).toArray⟩ : ByteArray) = T from bytes_ext hT.symm]; rfl, HK.out⟩
/-- vernacularref19.Form. -/
theorem form19_any : ∀ (n : Nat), Form19C n
  | 0 => fun _ _ _ _ _ h _ _ => h.elim
  | n + 1 => form19_step n (form19_any n)
end Go.Proofs.YtjldgcpmdcoejaaGreatDoor
