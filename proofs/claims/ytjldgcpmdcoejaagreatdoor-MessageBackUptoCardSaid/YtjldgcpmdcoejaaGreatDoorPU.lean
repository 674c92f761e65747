/- Walks: right of messages: may parts be? -/
import Derived.Test.YtjldgcpmdcoejaaGreatDoorPQ
import Derived.Test.YtjldgcpmdcoejaaGreatDoorPR
namespace Go.Proofs.YtjldgcpmdcoejaaGreatDoor
open Go.RowKit

set_option maxRecDepth 100000 in
set_option maxHeartbeats 400000 in
theorem rkey_any (k key : ByteArray) (pv : Value) (kb : Nat) (w : World) (hlt : kb < w.heap.size) (h : w.cell? ⟨kb, 0, none⟩ = some (.string key)) :
    Calls Tryz.prog 79 #[.agg #[.string k, pv], .pointer (some ⟨kb, 0, none⟩)] w fun e w' => e = .returned (.bool (decide (k = key))) ∧ Below w.heap.size w w' := by
  have HB := Lib.hid (bytes_beq k key)
  go_enter Tryz.func79, Tryz.ntmps79
  go_wp2
  go_ret
  exact ⟨ends_bool HB.out, (Below.refl _ _).alloc (Nat.le_refl _) _⟩
theorem caseC_take : ∀ (cs : List CT) (us : List Value) (k : Nat), us.length = cs.length → ∀ j, j < 2 * k → (caseC (cs.take k) (us.take k))[j]? = (caseC cs us)[j]?
  | [], [], k, _, j, _ => by simp [caseC]
  | c :: cs, u :: us, 0, _, j, hj => by omega
  | c :: cs, u :: us, k + 1, h, j, hj => by
    simp only [List.take_succ_cons, caseC]
    rcases Nat.lt_or_ge j 2 with h2 | h2
    · rw [List.getElem?_append_left (by simpa using h2), List.getElem?_append_left (by simpa using h2)]
    · rw [List.getElem?_append_right (by simpa using h2), List.getElem?_append_right (by simpa using h2)]
      exact caseC_take cs us k (by simpa using h) _ (by simp; omega)
theorem rdC_take {S : Nat → Prop} {w : World} {A : Option Addr} {cap : Nat} {cs : List CT} {us : List Value} (hu : us.length = cs.length) (h : RdC S w (.slice A cs.length cap) cs.length (caseC cs us)) {k : Nat} (hk : k ≤ cs.length) :
    RdC S w (.slice A k cap) (cs.take k).length (caseC (cs.take k) (us.take k)) := by
  obtain ⟨A2, c2, he, h1, h2, h3⟩ := h
  injection he with e1 _ e3
  subst e1; subst e3
  have hl : (cs.take k).length = k := by simp; omega
  rw [hl]
  refine ⟨A, cap, rfl, by omega, h2, fun h0 => ?_⟩
  obtain ⟨b, o, hA, hS, hb, hc⟩ := h3 (by omega)
  refine ⟨b, o, hA, hS, hb, fun j u hj => hc j u ?_⟩
  have hlen := (List.getElem?_eq_some_iff.1 hj).1
  rw [caseC_length _ _ (by simp [hu]), hl] at hlen
  rw [← caseC_take cs us k hu j (by omega)]
  exact hj
/-- Is there a case with a key among the first ones? -/
theorem twice_any {n : Nat} {S : Nat → Prop} {A : Option Addr} {cap : Nat} {cs : List CT} (key : ByteArray) (kb k : Nat) (w : World) (h : LiesC n S w (.slice A cs.length cap) cs) (hk : k ≤ cs.length) (hlt : kb < w.heap.size) (hc : w.cell? ⟨kb, 0, none⟩ = some (.string key)) (hl : cs.length ≤ 1000000000) :
    Calls Tryz.prog 78 #[.slice A k cap, .func (.func 79) #[] #[.pointer (some ⟨kb, 0, none⟩)]] w fun e w' => e = .returned (.bool (memW ((cs.take k).map Prod.fst) key)) ∧ Keep [] w w' := by
  obtain ⟨us, hu, hr, _⟩ := h
  exact (hasCase_any 79 #[.pointer (some ⟨kb, 0, none⟩)] (fun k => decide (k = key)) (enters_of Tryz.func79 (by kernel_rfl) rfl) S _ (cs.take k) (us.take k) (by simp [hu]) w
    (fun k pv W hb => rkey_any k key pv kb W (Nat.lt_of_lt_of_le hlt hb.size) ((hb.cell (p := ⟨kb, 0, none⟩) hlt).trans hc)) (rdC_take hu hr hk) (by simp; omega)).mono fun e w' ⟨h1, h2⟩ => ⟨h1, Keep.of_below h2⟩

/-- plain is right at a part. -/
def PlainOK (p : PT) : Prop := ∀ (h : Bool) (A : Option Addr) (c : Nat) (B : Nat) (w : World), EnvM B w →
  Calls Tryz.prog 77 #[.agg #[.int .i64 p.k, .string p.tx, .string p.nm, .string p.ty, .string p.st, .int .i64 p.off, .slice A p.cs.length c], .bool h] w fun e w' => e = .returned (.bool (plainB p h)) ∧ Keep [] w w'
theorem plain_ok (p : PT) (h1 : p.tx.size ≤ 1000000000) (h2 : p.nm.size ≤ 1000000000) (h3 : p.k = 3 → p.ty.size = 0) : PlainOK p := fun h A c B w _ => by
  by_cases hk1 : p.k = 1
  · exact plain_1 p h A c w hk1 h1
  · by_cases hk2 : p.k = 2
    · exact plain_2 p h A c w hk2
    · by_cases hk3 : p.k = 3
      · exact plain_3 p h A c w hk3 (h3 hk3) h2
      · by_cases hk4 : p.k = 4 ∨ p.k = 5 ∨ p.k = 6
        · exact plain_c p h A c w p.k rfl hk4 h2
        · exact plain_x p h A c w (by omega)
def allF (Q : PT → Prop) : Nat → List PT → Prop
  | 0, _ => True
  | n + 1, l => ∀ p ∈ l, Q p ∧ ∀ c ∈ p.cs, allF Q n c.2
/-- The kind ahead of a place. -/
def prevK (l : List PT) : Nat → Int
  | 0 => 0
  | k + 1 => match l[k]? with | some p => p.k | none => 0

/-- right is right, n deep. -/
def RightC (n : Nat) : Prop := ∀ (l : List PT) (h : Bool) (S : Nat → Prop) (v : Value) (B : Nat) (w : World), EnvM B w → Lies n S w v l → allF PlainOK n l → bulkF n l ≤ 1000000000 →
    Calls Tryz.prog 51 #[v, .bool h] w fun e w' => e = .returned (.bool (rightF n l h)) ∧ Keep [] w w'
set_option maxRecDepth 100000 in
set_option maxHeartbeats 8000000 in
/-- right: a step deeper. -/
theorem right_step (n : Nat) (ih : RightC n) : RightC (n + 1) := by
  intro l h S v B w hE hh hq hb
  obtain ⟨A, cap, rfl, hml, hat⟩ := lies_open hh
  have HAT := Lib.hid hat
  have HIH := Lib.hid ih
  have HE := Lib.hid hE
  have HQ := Lib.hid hq
  have hll : l.length ≤ 1000000000 := by have := bulkL_len (bulkF n) l; simp only [bulkF] at hb; omega
  have HB := Lib.hid hb
  obtain ⟨RR, hRR⟩ : ∃ b, rightF (n + 1) l h = b := ⟨_, rfl⟩
  have HRR : Hid (rightL (rightF n) h 0 l = RR) := hRR
  rw [hRR]
  clear hh hat hml hb hE hq hRR
  go_enter Tryz.func51, Tryz.ntmps51
  go_wp2
  go_loopw [13] (fun i wr => ∃ k : Nat, k ≤ l.length ∧ i = .int .i64 k ∧ Keep [] w wr ∧ rightL (rightF n) h (prevK l k) (l.drop k) = RR) (fun i _ => l.length - (intOf i).toNat)
  case atStart => exact ⟨0, Nat.zero_le _, rfl, Keep.refl _ _, HRR.out⟩
  case round =>
    obtain ⟨k, hk, rfl, hK, hF⟩ := hrel
    have HK := Lib.hid hK
    have HF := Lib.hid hF
    clear hK hF
    by_cases hlt : k < l.length
    · obtain ⟨p, hp⟩ : ∃ p, l[k]? = some p := ⟨_, List.getElem?_eq_getElem hlt⟩
      obtain ⟨b, o, cv, rfl, hb, hP, hC⟩ := HAT.out k p hp
      obtain ⟨a0, a1, a2, a3, a4, a5, a6⟩ := hP.keep HK.out hb
      have hC1 := hC.keep HK.out (by simp)
      obtain ⟨Ac, cc, rfl⟩ := hC1.formL
      have hpm : p ∈ l := List.mem_of_getElem? hp
      have HPL := Lib.hid (HQ.out p hpm).1
      have HCQ := Lib.hid (HQ.out p hpm).2
      have hbk := bulkL_at (bulkF n) l k p hp
      have hbL : bulkL (bulkF n) l ≤ 1000000000 := HB.out
      have HC := Lib.hid hC1
      have hcl : p.cs.length ≤ 1000000000 := by have := bulkC_len (bulkF n) p.cs; omega
      have hbr := Nat.lt_of_lt_of_le hb HK.out.size
      have hdr : l.drop k = p :: l.drop (k + 1) := by
        rw [List.drop_eq_getElem_cons hlt, (List.getElem?_eq_some_iff.1 hp).2]
      have hF2 := HF.out
      rw [hdr, rightL] at hF2
      have HF2 := Lib.hid hF2
      have HPK : Hid (prevK l (k + 1) = p.k) := by show (match l[k]? with | some p => p.k | none => 0) = p.k; rw [hp]
      have HE1 := Lib.hid (HE.out.keep HK.out (by simp))
      have HPC := fun W (hW : Keep [] wr W) => Lib.hid (HPL.out h Ac cc B W (HE1.out.keep hW (by simp)))
      have hkx : Keep [] wr (wr.alloc (.cells #[.int .i64 p.k, .string p.tx, .string p.nm, .string p.ty, .string p.st, .int .i64 p.off, .slice Ac p.cs.length cc] 47)) := (Keep.refl [] wr).alloc _
      have HKX := Lib.hid hkx
      clear hP hC hC1 hdr hF2 HF hp hpm hkx
      cases hpl : plainB p h
      · rw [hpl] at HPC
        have HR : Hid (RR = false) := by unfold Hid; rw [← HF2.out, hpl]; rfl
        clear hpl HF2
        go_wp2_with (go_at_call 77; refine (HPC _ HKX.out).out.mono ?_; rintro e w3 ⟨rfl, hk3⟩)
        go_ret
        exact ⟨by rw [HR.out]; rfl, (HK.out.nil HKX.out).nil hk3⟩
      · rw [hpl] at HPC
        have HF3 : Hid ((!(p.k == 1 && prevK l k == 1) && caseR (fun m => rightF n m (decide (p.k ≠ 4))) p.k [] p.cs && otherB p && rightL (rightF n) h p.k (l.drop (k + 1))) = RR) := by
          have := HF2.out
          rw [hpl, Bool.true_and] at this
          exact this
        clear hpl HF2
        obtain ⟨two, htwo⟩ : ∃ two : Bool, (p.k == 1 && prevK l k == 1) = two := ⟨_, rfl⟩
        rw [htwo] at HF3
        have HTW := Lib.hid htwo
        have hBX : Blk (wr.alloc (.cells #[.int .i64 p.k, .string p.tx, .string p.nm, .string p.ty, .string p.st, .int .i64 p.off, .slice Ac p.cs.length cc] 47)) wr.heap.size 47 (p.cells (.slice Ac p.cs.length cc)).toArray := Blk.new _ _ _
        have HBX := Lib.hid hBX
        clear htwo hBX
        go_upto_region 4 with fail
        generalize wr.alloc (.cells #[.int .i64 p.k, .string p.tx, .string p.nm, .string p.ty, .string p.st, .int .i64 p.off, .slice Ac p.cs.length cc] 47) = W1 at *
        generalize wr.heap.size = bx at *
        have HK1 := Lib.hid (HK.out.nil HKX.out)
        have hp0 : ∀ k', k = k' + 1 → ∃ p', l[k']? = some p' := fun k' hk' => ⟨_, List.getElem?_eq_getElem (by omega)⟩
        clear a0 a1 a2 a3 a4 a5 a6
        go_cut [39] (fun u W => u = .bool two ∧ Keep [] W1 W)
        case first =>
          obtain ⟨q0, q1, q2, q3, q4, q5, q6, qz⟩ := part_all HBX.out
          rcases k with _ | k'
          · have h2 : Hid (two = false) := by unfold Hid; rw [← HTW.out]; show (p.k == 1 && (0 : Int) == 1) = false; simp
            clear hp0
            go_wp2_with (go_at_call 77; refine (HPC _ HKX.out).out.mono ?_; rintro e w3 ⟨rfl, hk3⟩)
            go_meet
            exact ⟨by rw [h2.out], hk3⟩
          · obtain ⟨p', hp'⟩ := hp0 k' rfl
            obtain ⟨b', o', cv', hA', hb', hP', _⟩ := HAT.out k' p' hp'
            injection hA' with hA'
            injection hA' with h1 h2
            subst h1; subst h2
            have hkc := hP'.1
            have hpk : prevK l (k' + 1) = p'.k := by show (match l[k']? with | some p => p.k | none => 0) = p'.k; rw [hp']
            have HT2 : Hid ((p.k == 1 && p'.k == 1) = two) := by unfold Hid; rw [← hpk]; exact HTW.out
            have HKC := Lib.hid hkc
            clear hp0 hp' hP' hkc hpk
            have s1 : ((k' + 1 : Nat) : Int) - 1 = (k' : Int) := by omega
            have s2 : (0 : Int) < ((k' + 1 : Nat) : Int) := by omega
            have s3 : (k' : Int) < (l.length : Int) := by omega
            go_wp2_with (go_at_call 77; refine (HPC _ HKX.out).out.mono ?_; rintro e w3 ⟨rfl, hk3⟩; obtain ⟨r0, r1, r2, r3, r4, r5, r6, rz⟩ := part_all (HBX.out.keep hk3 (by simp)); have rk := ((HK1.out.nil hk3).cell (p := ⟨b, o + k' * 7, none⟩) hb (by simp)).trans HKC.out)
            all_goals
              go_meet
              refine ⟨?_, hk3⟩
              rw [← HT2.out]
              clear HPC HF3 HCQ HPL HE1 HC HAT HIH HQ HRR HTW HBX HK1 HKX HK HE HB HT2
              simp [*]
        case rest =>
          obtain ⟨rfl, hk3⟩ := hcut
          have HBX3 := Lib.hid (HBX.out.keep hk3 (by simp))
          have HC3 := Lib.hid ((HC.out.keep HKX.out (by simp)).keep hk3 (by simp))
          have HE3 := Lib.hid ((HE1.out.keep HKX.out (by simp)).keep hk3 (by simp))
          have HK3 := Lib.hid (HK1.out.nil hk3)
          obtain ⟨q0, q1, q2, q3, q4, q5, q6, qz⟩ := part_all HBX3.out
          clear hk3 HBX HC HE1 HPC hp0
          cases two
          case true =>
            have HR : Hid (RR = false) := by unfold Hid; rw [← HF3.out]; rfl
            go_wp2
            go_ret
            exact ⟨by rw [HR.out]; rfl, HK3.out⟩
          case false =>
            have HF4 : Hid ((caseR (fun m => rightF n m (decide (p.k ≠ 4))) p.k [] p.cs && otherB p && rightL (rightF n) h p.k (l.drop (k + 1))) = RR) := by
              have := HF3.out
              rw [Bool.not_false, Bool.true_and] at this
              exact this
            clear HF3
            obtain ⟨A2, cap2, he, _, hcat⟩ := liesC_open HC3.out
            injection he with he1 he2 he3
            subst he1; subst he3
            have HCAT := Lib.hid hcat
            clear hcat he2
            generalize hwc : wc = W2 at *
            clear hwc
            obtain ⟨CR, hCR⟩ : ∃ CR, caseR (fun m => rightF n m (decide (p.k ≠ 4))) p.k [] p.cs = CR := ⟨_, rfl⟩
            rw [hCR] at HF4
            have HCR := Lib.hid hCR
            clear hCR
            go_wp2
            go_loopw [7, 46] (fun t j wx => ∃ m : Nat, m ≤ p.cs.length ∧ j = .int .i64 m ∧ t = .bool (decide (p.k < 4) || memW ((p.cs.map Prod.fst).take m) otherW) ∧ Keep [] W2 wx ∧ caseR (fun m => rightF n m (decide (p.k ≠ 4))) p.k ((p.cs.take m).map Prod.fst) (p.cs.drop m) = CR) (fun _ j _ => p.cs.length - (intOf j).toNat)
            case atStart => exact ⟨0, Nat.zero_le _, rfl, by simp [memW], Keep.refl _ _, HCR.out⟩
            case round =>
              obtain ⟨m, hm, rfl, rfl, hKi, hG⟩ := hrel
              have HKi := Lib.hid hKi
              have HG := Lib.hid hG
              clear hKi hG q0 q1 q2 q3 q4 q5 q6
              obtain ⟨q0, q1, q2, q3, q4, q5, q6, qz⟩ := part_all (HBX3.out.keep HKi.out (by simp))
              by_cases hlt2 : m < p.cs.length
              · obtain ⟨c, hc⟩ : ∃ c, p.cs[m]? = some c := ⟨_, List.getElem?_eq_getElem hlt2⟩
                obtain ⟨b2, o2, pv, rfl, hb2, e1, e2, hL⟩ := HCAT.out m c hc
                have e1' := (HKi.out.cell (p := ⟨b2, o2 + m * 2, none⟩) hb2 (by simp)).trans e1
                have e2' := (HKi.out.cell (p := ⟨b2, o2 + m * 2 + 1, none⟩) hb2 (by simp)).trans e2
                obtain ⟨Ap, mp, kp, rfl⟩ := hL.form
                have hbr2 := Nat.lt_of_lt_of_le hb2 HKi.out.size
                have hbc := bulkC_at (bulkF n) p.cs m c hc
                have hcm : c ∈ p.cs := List.mem_of_getElem? hc
                have HAQ := Lib.hid (HCQ.out c hcm)
                have hdr : p.cs.drop m = c :: p.cs.drop (m + 1) := by
                  rw [List.drop_eq_getElem_cons hlt2, (List.getElem?_eq_some_iff.1 hc).2]
                have hkeys : (p.cs.take (m + 1)).map Prod.fst = (p.cs.take m).map Prod.fst ++ [c.1] := by rw [take_snoc' hc]; simp
                have HKY := Lib.hid hkeys
                have hG2 := HG.out
                rw [hdr, caseR] at hG2
                have HG2 : Hid ((!memW ((p.cs.take m).map Prod.fst) c.1 && isKeyB p.k c.1 && rightF n c.2 (decide (p.k ≠ 4)) && caseR (fun m => rightF n m (decide (p.k ≠ 4))) p.k ((p.cs.take (m + 1)).map Prod.fst) (p.cs.drop (m + 1))) = CR) := by
                  unfold Hid
                  rw [hkeys]; exact hG2
                have HLQ := Lib.hid hL
                have hEi := HE3.out.keep HKi.out (by simp)
                have HEi := Lib.hid hEi
                have hk4 : (p.k != 4) = decide (p.k ≠ 4) := by rw [Bool.eq_iff_iff]; simp
                have HTC : Hid (∀ kb W, Keep [] wr W → kb < W.heap.size → W.cell? ⟨kb, 0, none⟩ = some (.string c.1) → Calls Tryz.prog 78 #[.slice (some ⟨b2, o2, none⟩) m cc, .func (.func 79) #[] #[.pointer (some ⟨kb, 0, none⟩)]] W fun e w' => e = .returned (.bool (memW ((p.cs.take m).map Prod.fst) c.1)) ∧ Keep [] W w') := fun kb W hW hlt hc =>
                  twice_any c.1 kb m W ((HC3.out.keep HKi.out (by simp)).keep hW (by simp)) hm hlt hc hcl
                have HKC : Hid (∀ W, Keep [] wr W → Calls Tryz.prog 80 #[.string c.1, .int .i64 p.k] W fun e w' => e = .returned (.bool (isKeyB p.k c.1)) ∧ Keep [] W w') := fun W hW => isKey_any c.1 p.k W (HEi.out.keep hW (by simp)) (by omega)
                have HRC : Hid (∀ W, Keep [] wr W → Calls Tryz.prog 51 #[.slice Ap mp kp, .bool (p.k != 4)] W fun e w' => e = .returned (.bool (rightF n c.2 (decide (p.k ≠ 4)))) ∧ Keep [] W w') := fun W hW => hk4 ▸ HIH.out c.2 _ S _ B W (HEi.out.keep hW (by simp)) ((hL.keep HKi.out (by simp)).keep hW (by simp)) HAQ.out (by omega)
                have HOW : Hid ((c.1.toList == [111, 116, 104, 101, 114]) = decide (c.1 = otherW)) := by
                  unfold Hid
                  rw [← bytes_beq]
                  rw [show otherW.toList = [111, 116, 104, 101, 114] from by rw [ByteArray.toList_eq]; rfl]
                generalize memW ((p.cs.take m).map Prod.fst) c.1 = tw at *
                generalize isKeyB p.k c.1 = ik at *
                generalize rightF n c.2 (decide (p.k ≠ 4)) = rc at *
                clear e1 e2 hL hc hcm hdr hkeys hG2 HG hEi hk4 HCQ HAQ HLQ
                have hkx : Keep [] wr (wr.alloc (.cells #[.string c.1, .slice Ap mp kp] 51)) := (Keep.refl [] wr).alloc _
                have HKY2 := Lib.hid hkx
                have HBY := Lib.hid (Blk.new wr 51 #[.string c.1, .slice Ap mp kp])
                have hbx : bx < wr.heap.size := (HBX3.out.keep HKi.out (by simp)).lt
                go_upto_region 10 with fail
                have HBX4 := Lib.hid ((HBX3.out.keep HKi.out (by simp)).keep HKY2.out (by simp))
                have HKW := Lib.hid ((HK3.out.nil HKi.out).nil HKY2.out)
                have HKV := Lib.hid (HKi.out.nil HKY2.out)
                clear q0 q1 q2 q3 q4 q5 q6
                obtain ⟨q0, q1, q2, q3, q4, q5, q6, qz⟩ := part_all HBX4.out
                generalize wr.alloc (.cells #[.string c.1, .slice Ap mp kp] 51) = W3 at *
                generalize wr.heap.size = cb at *
                have hob : (decide (p.k < 4) || memW ((p.cs.map Prod.fst).take (m + 1)) otherW) = ((decide (p.k < 4) || memW ((p.cs.map Prod.fst).take m) otherW) || decide (c.1 = otherW)) := by
                  rw [← List.map_take, HKY.out, ← List.map_take]
                  unfold memW
                  simp [List.any_append, Bool.or_assoc]
                have HOB := Lib.hid hob
                clear hob
                generalize (decide (p.k < 4) || memW ((p.cs.map Prod.fst).take m) otherW) = ob at *
                have fin : RR = false → ∀ W, Keep [] W3 W → (Ending.returned (Value.bool false) = Ending.returned (.bool RR) ∧ Keep [] w W) := fun h W hW => ⟨by rw [h], HKW.out.nil hW⟩
                have HFIN := Lib.hid fin
                clear fin
                have hcc : p.cs.length ≤ cc := by
                  obtain ⟨_, _, ⟨A3, c3, he3, h13, _⟩, _⟩ := HC3.out
                  injection he3 with _ _ e3
                  omega
                have hmc : m ≤ cc := by omega
                have hmc' : (m : Int) ≤ cc := by omega
                cases tw
                case true =>
                  have HR : Hid (RR = false) := by unfold Hid; rw [← HF4.out, ← HG2.out]; rfl
                  go_wp2_with (go_at_call 78; refine (HTC.out cb _ HKY2.out HBY.out.lt (HBY.out.cell_eq rfl)).mono ?_; rintro e w4 ⟨rfl, hk4⟩; obtain ⟨y0, y1, y2, y3, y4, y5, y6, yz⟩ := part_all (HBX4.out.keep hk4 (by simp)); have c40 := (HBY.out.keep hk4 (by simp)).cell_eq (i := 0) rfl; have c41 := (HBY.out.keep hk4 (by simp)).cell_eq (i := 1) rfl; have HK4w := Lib.hid hk4; clear hk4)
                  go_ret
                  exact HFIN.out HR.out _ HK4w.out
                case false =>
                  cases ik
                  case false =>
                    have HR : Hid (RR = false) := by unfold Hid; rw [← HF4.out, ← HG2.out]; rfl
                    go_wp2_with (first | (go_at_call 78; refine (HTC.out cb _ HKY2.out HBY.out.lt (HBY.out.cell_eq rfl)).mono ?_; rintro e w4 ⟨rfl, hk4⟩; obtain ⟨y0, y1, y2, y3, y4, y5, y6, yz⟩ := part_all (HBX4.out.keep hk4 (by simp)); have c40 := (HBY.out.keep hk4 (by simp)).cell_eq (i := 0) rfl; have c41 := (HBY.out.keep hk4 (by simp)).cell_eq (i := 1) rfl; have HK4w := Lib.hid hk4; clear hk4) | (go_at_call 80; refine (HKC.out _ (HKY2.out.nil HK4w.out)).mono ?_; rintro e w5 ⟨rfl, hk5⟩; have HK5w := Lib.hid (HK4w.out.nil hk5); obtain ⟨z0, z1, z2, z3, z4, z5, z6, zz⟩ := part_all (HBX4.out.keep HK5w.out (by simp)); have c50 := (HBY.out.keep HK5w.out (by simp)).cell_eq (i := 0) rfl; have c51 := (HBY.out.keep HK5w.out (by simp)).cell_eq (i := 1) rfl; clear hk5))
                    go_ret
                    exact HFIN.out HR.out _ HK5w.out
                  case true =>
                    cases rc
                    case false =>
                      have HR : Hid (RR = false) := by unfold Hid; rw [← HF4.out, ← HG2.out]; rfl
                      go_wp2_with (first | (go_at_call 78; refine (HTC.out cb _ HKY2.out HBY.out.lt (HBY.out.cell_eq rfl)).mono ?_; rintro e w4 ⟨rfl, hk4⟩; obtain ⟨y0, y1, y2, y3, y4, y5, y6, yz⟩ := part_all (HBX4.out.keep hk4 (by simp)); have c40 := (HBY.out.keep hk4 (by simp)).cell_eq (i := 0) rfl; have c41 := (HBY.out.keep hk4 (by simp)).cell_eq (i := 1) rfl; have HK4w := Lib.hid hk4; clear hk4) | (go_at_call 80; refine (HKC.out _ (HKY2.out.nil HK4w.out)).mono ?_; rintro e w5 ⟨rfl, hk5⟩; have HK5w := Lib.hid (HK4w.out.nil hk5); obtain ⟨z0, z1, z2, z3, z4, z5, z6, zz⟩ := part_all (HBX4.out.keep HK5w.out (by simp)); have c50 := (HBY.out.keep HK5w.out (by simp)).cell_eq (i := 0) rfl; have c51 := (HBY.out.keep HK5w.out (by simp)).cell_eq (i := 1) rfl; clear hk5) | (go_at_call 51; refine (HRC.out _ (HKY2.out.nil HK5w.out)).mono ?_; rintro e w6 ⟨rfl, hk6⟩; have HK6w := Lib.hid (HK5w.out.nil hk6); have c60 := (HBY.out.keep HK6w.out (by simp)).cell_eq (i := 0) rfl; clear hk6))
                      go_ret
                      exact HFIN.out HR.out _ HK6w.out
                    case true =>
                      have HG3 : Hid (caseR (fun m => rightF n m (decide (p.k ≠ 4))) p.k ((p.cs.take (m + 1)).map Prod.fst) (p.cs.drop (m + 1)) = CR) := HG2.out
                      cases ob
                      · go_wp2_with (first | (go_at_call 78; refine (HTC.out cb _ HKY2.out HBY.out.lt (HBY.out.cell_eq rfl)).mono ?_; rintro e w4 ⟨rfl, hk4⟩; obtain ⟨y0, y1, y2, y3, y4, y5, y6, yz⟩ := part_all (HBX4.out.keep hk4 (by simp)); have c40 := (HBY.out.keep hk4 (by simp)).cell_eq (i := 0) rfl; have c41 := (HBY.out.keep hk4 (by simp)).cell_eq (i := 1) rfl; have HK4w := Lib.hid hk4; clear hk4) | (go_at_call 80; refine (HKC.out _ (HKY2.out.nil HK4w.out)).mono ?_; rintro e w5 ⟨rfl, hk5⟩; have HK5w := Lib.hid (HK4w.out.nil hk5); obtain ⟨z0, z1, z2, z3, z4, z5, z6, zz⟩ := part_all (HBX4.out.keep HK5w.out (by simp)); have c50 := (HBY.out.keep HK5w.out (by simp)).cell_eq (i := 0) rfl; have c51 := (HBY.out.keep HK5w.out (by simp)).cell_eq (i := 1) rfl; clear hk5) | (go_at_call 51; refine (HRC.out _ (HKY2.out.nil HK5w.out)).mono ?_; rintro e w6 ⟨rfl, hk6⟩; have HK6w := Lib.hid (HK5w.out.nil hk6); have c60 := (HBY.out.keep HK6w.out (by simp)).cell_eq (i := 0) rfl; clear hk6))
                        go_roundw
                        case rel => exact ⟨m + 1, by omega, by go_num, by rw [HOB.out, ← HOW.out]; rfl, HKV.out.nil HK6w.out, HG3.out⟩
                        case measure => simp [intOf]; omega
                      · go_wp2_with (first | (go_at_call 78; refine (HTC.out cb _ HKY2.out HBY.out.lt (HBY.out.cell_eq rfl)).mono ?_; rintro e w4 ⟨rfl, hk4⟩; obtain ⟨y0, y1, y2, y3, y4, y5, y6, yz⟩ := part_all (HBX4.out.keep hk4 (by simp)); have c40 := (HBY.out.keep hk4 (by simp)).cell_eq (i := 0) rfl; have c41 := (HBY.out.keep hk4 (by simp)).cell_eq (i := 1) rfl; have HK4w := Lib.hid hk4; clear hk4) | (go_at_call 80; refine (HKC.out _ (HKY2.out.nil HK4w.out)).mono ?_; rintro e w5 ⟨rfl, hk5⟩; have HK5w := Lib.hid (HK4w.out.nil hk5); obtain ⟨z0, z1, z2, z3, z4, z5, z6, zz⟩ := part_all (HBX4.out.keep HK5w.out (by simp)); have c50 := (HBY.out.keep HK5w.out (by simp)).cell_eq (i := 0) rfl; have c51 := (HBY.out.keep HK5w.out (by simp)).cell_eq (i := 1) rfl; clear hk5) | (go_at_call 51; refine (HRC.out _ (HKY2.out.nil HK5w.out)).mono ?_; rintro e w6 ⟨rfl, hk6⟩; have HK6w := Lib.hid (HK5w.out.nil hk6); have c60 := (HBY.out.keep HK6w.out (by simp)).cell_eq (i := 0) rfl; clear hk6))
                        go_roundw
                        case rel => exact ⟨m + 1, by omega, by go_num, by rw [HOB.out]; rfl, HKV.out.nil HK6w.out, HG3.out⟩
                        case measure => simp [intOf]; omega
              · obtain rfl : m = p.cs.length := by omega
                have hG2 := HG.out
                rw [List.drop_length] at hG2
                have HG2 : Hid (CR = true) := hG2.symm
                have HF5 : Hid ((otherB p && rightL (rightF n) h p.k (l.drop (k + 1))) = RR) := by have := HF4.out; rw [HG2.out, Bool.true_and] at this; exact this
                rw [show (p.cs.map Prod.fst).take p.cs.length = p.cs.map Prod.fst from List.take_of_length_le (by simp)]
                have HOB : Hid ((decide (p.k < 4) || memW (p.cs.map Prod.fst) otherW) = otherB p) := rfl
                generalize (decide (p.k < 4) || memW (p.cs.map Prod.fst) otherW) = ob at *
                cases ob
                · have HR : Hid (RR = false) := by unfold Hid; rw [← HF5.out, ← HOB.out]; rfl
                  go_wp2
                  go_ret
                  exact ⟨by rw [HR.out]; rfl, HK3.out.nil HKi.out⟩
                · have HF6 : Hid (rightL (rightF n) h p.k (l.drop (k + 1)) = RR) := by have := HF5.out; rw [← HOB.out, Bool.true_and] at this; exact this
                  go_wp2
                  go_roundw
                  case rel => exact ⟨k + 1, by omega, by go_num, HK3.out.nil HKi.out, by rw [HPK.out]; exact HF6.out⟩
                  case measure => simp [intOf]; omega
    · have hF := HF.out
      rw [List.drop_eq_nil_of_le (by omega)] at hF
      have HR : Hid (RR = true) := hF.symm
      clear hF
      go_wp2
      go_ret
      exact ⟨by rw [HR.out]; rfl, HK.out⟩
/-- right. -/
theorem right_any : ∀ (n : Nat), RightC n
  | 0 => fun _ _ _ _ _ _ _ hh _ _ => hh.elim
  | n + 1 => right_step n (right_any n)
end Go.Proofs.YtjldgcpmdcoejaaGreatDoor
