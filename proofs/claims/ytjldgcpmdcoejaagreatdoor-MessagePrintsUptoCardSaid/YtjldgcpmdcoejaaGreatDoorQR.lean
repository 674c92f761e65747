/- Walks: vernacularref19.Right: which parts may be. -/
import Derived.Test.YtjldgcpmdcoejaaGreatDoorPU
import Derived.Test.YtjldgcpmdcoejaaGreatDoorQK
namespace Go.Proofs.YtjldgcpmdcoejaaGreatDoor
open Go.RowKit

theorem noB_l (s : ByteArray) : noB s = decide (s.toList = []) := by
  rw [← emp']
  cases h : s.toList <;> simp
theorem part_read' {w : World} {b : Nat} {a0 a1 a2 a3 a4 a5 a6 : Value} (h : Blk w b 47 #[a0, a1, a2, a3, a4, a5, a6]) :
    w.cell? ⟨b, 0, none⟩ = some a0 ∧ w.cell? ⟨b, 1, none⟩ = some a1 ∧ w.cell? ⟨b, 2, none⟩ = some a2 ∧ w.cell? ⟨b, 3, none⟩ = some a3 ∧ w.cell? ⟨b, 4, none⟩ = some a4 ∧ w.cell? ⟨b, 5, none⟩ = some a5 ∧ w.cell? ⟨b, 6, none⟩ = some a6 :=
  ⟨h.cell_eq rfl, h.cell_eq rfl, h.cell_eq rfl, h.cell_eq rfl, h.cell_eq rfl, h.cell_eq rfl, h.cell_eq rfl⟩
/-- What the test of a case leaves standing. -/
theorem FK4 {W1 W w' : World} {a b : Addr} {c d : Addr} {va vb vc vd : Value} (h : W.cell? a = some va ∧ W.cell? b = some vb ∧ W.cell? c = some vc ∧ W.cell? d = some vd ∧ Keep [] W1 W) (hk : Keep [] W w')
    (ha : a.block < W1.heap.size) (hb : b.block < W1.heap.size) (hc : c.block < W1.heap.size) (hd : d.block < W1.heap.size) :
    w'.cell? a = some va ∧ w'.cell? b = some vb ∧ w'.cell? c = some vc ∧ w'.cell? d = some vd ∧ Keep [] W1 w' :=
  have hs := h.2.2.2.2.size
  ⟨(hk.cell (Nat.lt_of_lt_of_le ha hs) (by simp)).trans h.1, (hk.cell (Nat.lt_of_lt_of_le hb hs) (by simp)).trans h.2.1, (hk.cell (Nat.lt_of_lt_of_le hc hs) (by simp)).trans h.2.2.1, (hk.cell (Nat.lt_of_lt_of_le hd hs) (by simp)).trans h.2.2.2.1, h.2.2.2.2.nil hk⟩
/-- A part that is no choice has no cases to be looked at. -/
theorem plain_nocase (R : List PT → Bool) (p : PT) (h x rs : Bool) (hk : p.k < 4 ∨ 6 < p.k) : (plainB p h && x && caseR R p.k [] p.cs && otherB p && rs) = (plainB p h && x && rs) := by
  cases hp : plainB p h
  · rfl
  · have hc : p.k < 4 ∧ p.cs.length = 0 := by
      unfold plainB at hp
      split at hp
      · simp only [Bool.and_eq_true, decide_eq_true_eq] at hp; omega
      · split at hp
        · simp only [Bool.and_eq_true, decide_eq_true_eq] at hp; omega
        · split at hp
          · simp only [Bool.and_eq_true, decide_eq_true_eq] at hp; omega
          · split at hp
            · omega
            · cases hp
    have h0 : p.cs = [] := List.eq_nil_of_length_eq_zero hc.2
    rw [h0]
    have ho : otherB p = true := by unfold otherB; rw [decide_eq_true hc.1]; rfl
    rw [ho]
    simp [caseR]
theorem keys_len {cs : List CT} (h : memW (cs.map Prod.fst) otherW = true) : cs.length ≠ 0 := fun h0 => by
  rw [List.eq_nil_of_length_eq_zero h0] at h
  exact absurd h (by decide)
theorem cell_heap {W W' : World} (h : W.heap = W'.heap) (a : Addr) : W.cell? a = W'.cell? a := by
  unfold World.cell?
  rw [h]
/-- vernacularref19.Right is right, n deep. -/
def Right19C (n : Nat) : Prop := ∀ (l : List PT) (h : Bool) (S : Nat → Prop) (v : Value) (w : World), Lies n S w v l → bulkF n l ≤ 1000000000 →
    Calls Tryz.prog 26 #[v, .bool h] w fun e w' => e = .returned (.bool (rightF n l h)) ∧ Keep [] w w'
set_option maxRecDepth 100000 in
set_option maxHeartbeats 16000000 in
/-- vernacularref19.Right: a step deeper. -/
theorem right19_step (n : Nat) (ih : Right19C n) : Right19C (n + 1) := by
  intro l h S v w hh hb
  obtain ⟨A, cap, rfl, hml, hat⟩ := lies_open hh
  have HAT := Lib.hid hat
  have HIH := Lib.hid ih
  have hll : l.length ≤ 1000000000 := by have := bulkL_len (bulkF n) l; simp only [bulkF] at hb; omega
  have HB := Lib.hid hb
  obtain ⟨RR, hRR⟩ : ∃ b, rightF (n + 1) l h = b := ⟨_, rfl⟩
  have HRR : Hid (rightL (rightF n) h 0 l = RR) := hRR
  rw [hRR]
  clear hh hat hml hb hRR ih
  go_enter Tryz.func26, Tryz.ntmps26
  go_wp2
  go_loopw [5] (fun i wr => ∃ k : Nat, k ≤ l.length ∧ i = .int .i64 k ∧ Keep [] w wr ∧ rightL (rightF n) h (prevK l k) (l.drop k) = RR) (fun i _ => l.length - (intOf i).toNat)
  case atStart => exact ⟨0, Nat.zero_le _, rfl, Keep.refl _ _, HRR.out⟩
  case round =>
    obtain ⟨k, hk, rfl, hK, hF⟩ := hrel
    have HK := Lib.hid hK
    have HF := Lib.hid hF
    clear hK hF
    by_cases hlt : k < l.length
    · obtain ⟨p, hp⟩ : ∃ p, l[k]? = some p := ⟨_, List.getElem?_eq_getElem hlt⟩
      obtain ⟨b, o, cv, rfl, hb, hP, hC⟩ := HAT.out k p hp
      obtain ⟨a0, a1, a2, a3, a4, a5, a6⟩ := hP.keep HK.out hb
      have hC1 := hC.keep HK.out (by simp)
      obtain ⟨Ac, cc, rfl⟩ := hC1.formL
      have hbk := bulkL_at (bulkF n) l k p hp
      have hbL : bulkL (bulkF n) l ≤ 1000000000 := HB.out
      have hcl : p.cs.length ≤ 1000000000 := by have := bulkC_len (bulkF n) p.cs; omega
      have hbr := Nat.lt_of_lt_of_le hb HK.out.size
      have hdr : l.drop k = p :: l.drop (k + 1) := by
        rw [List.drop_eq_getElem_cons hlt, (List.getElem?_eq_some_iff.1 hp).2]
      have hF2 := HF.out
      rw [hdr, rightL] at hF2
      have HPK : Hid (prevK l (k + 1) = p.k) := by show (match l[k]? with | some p => p.k | none => 0) = p.k; rw [hp]
      obtain ⟨rs, hrs⟩ : ∃ rs, rightL (rightF n) h p.k (l.drop (k + 1)) = rs := ⟨_, rfl⟩
      rw [hrs] at hF2
      have HRS := Lib.hid hrs
      have HF2 := Lib.hid hF2
      have hKx : Keep [] wr (wr.alloc (.cells #[.int .i64 p.k, .string p.tx, .string p.nm, .string p.ty, .string p.st, .int .i64 p.off, .slice Ac p.cs.length cc] 47)) := (Keep.refl [] wr).alloc _
      have HX0 : Hid (Blk (wr.alloc (.cells #[.int .i64 p.k, .string p.tx, .string p.nm, .string p.ty, .string p.st, .int .i64 p.off, .slice Ac p.cs.length cc] 47)) wr.heap.size 47 #[.int .i64 p.k, .string p.tx, .string p.nm, .string p.ty, .string p.st, .int .i64 p.off, .slice Ac p.cs.length cc]) := Blk.new _ _ _
      have HKX : Hid (∀ o : Obj, Keep [] w (wr.alloc o)) := fun o => HK.out.nil ((Keep.refl [] wr).alloc o)
      have HC2 := Lib.hid (hC1.keep hKx (by simp))
      have HNM : ∀ W, Hid (Calls Tryz.prog 56 #[.string p.nm] W fun e w' => e = .returned (.bool (isNameB p.nm)) ∧ W = w') := fun W => isName19_any p.nm W (by omega)
      have HHP := Lib.hid hp
      clear hP hC hC1 hdr hF2 HF hp hKx hrs
      obtain hkk | hkk | hkk | hkk | hkk : p.k = 1 ∨ p.k = 2 ∨ p.k = 3 ∨ (4 ≤ p.k ∧ p.k ≤ 6) ∨ (p.k < 1 ∨ 6 < p.k) := by omega
      · as_aux_lemma => -- a text
        have HR : Hid ((plainB p h && !(prevK l k == 1) && rs) = RR) := by
          unfold Hid
          rw [← plain_nocase (fun m => rightF n m (decide (p.k ≠ 4))) p h _ rs (by omega), ← HF2.out, hkk]
          simp
        have HKK : Hid (plainB p h = (!decide (p.tx.toList = []) && decide (brk p.tx < 0) && !decide (0 < (p.cs.length : Int)) && decide (p.nm.toList = []) && decide (p.ty.toList = []) && decide (p.st.toList = []) && (p.off == 0))) := by
          unfold Hid plainB
          rw [if_pos hkk, noB_l, noB_l, noB_l, noB_l]
          have e1 : decide (p.cs.length = 0) = !decide (0 < (p.cs.length : Int)) := by rw [Bool.eq_iff_iff]; simp
          have e2 : decide (p.off = 0) = (p.off == 0) := by rw [Bool.eq_iff_iff]; simp
          rw [e1, e2]
        have HRT : ∀ W, Hid (Calls Tryz.prog 16 #[.string p.tx] W fun e w' => e = .returned (.int .i64 (brk p.tx)) ∧ W = w') := fun W => right17_any p.tx W (by omega)
        rw [hkk] at a0
        generalize brk p.tx = bt at *
        by_cases hk0 : k = 0
        · have HPV : Hid ((prevK l k == 1) = false) := by rw [hk0]; exact (rfl : (prevK l 0 == 1) = false)
          have s0 : ¬ (0 : Int) < (k : Int) := by omega
          clear HF2 HX0 HC2 HNM hk0
          go_wp2_with (go_at_call 16; refine (HRT _).out.mono ?_; rintro e w' ⟨rfl, rfl⟩)
          all_goals first
            | (have key : RR = false := by (rw [← HR.out, HKK.out]; clear HAT HIH HB HRR HK HRS HKX HHP HPK HRT; go_light; first | (simp [*]; done) | grind [List.isEmpty_iff])
               go_ret
               exact ⟨by rw [key]; rfl, HKX.out _⟩)
            | (have key : rs = RR := by (rw [← HR.out, HKK.out, HPV.out]; clear HAT HIH HB HRR HK HRS HKX HHP HPK HRT; go_light; first | (simp [*]; done) | grind [List.isEmpty_iff])
               go_roundw
               case rel => exact ⟨k + 1, by omega, by go_num, HKX.out _, by rw [HPK.out, HRS.out]; exact key⟩
               case measure => simp [intOf]; omega)
        · obtain ⟨k', hkk'⟩ : ∃ k', k = k' + 1 := ⟨k - 1, by omega⟩
          obtain ⟨p', hp'⟩ : ∃ p', l[k']? = some p' := ⟨_, List.getElem?_eq_getElem (by omega)⟩
          obtain ⟨b', o', cv', hA', hb', hP', _⟩ := HAT.out k' p' hp'
          injection hA' with hA'
          injection hA' with h1 h2
          subst h1; subst h2
          have hkc := (HK.out.cell (p := ⟨b, o + k' * 7, none⟩) hb (by simp)).trans hP'.1
          have HPV : Hid ((prevK l k == 1) = (p'.k == 1)) := by
            rw [hkk']
            show ((match l[k']? with | some p => p.k | none => 0) == 1) = (p'.k == 1); rw [hp']
          have s1 : (k : Int) - 1 = (k' : Int) := by omega
          have s2 : (0 : Int) < (k : Int) := by omega
          have s3 : (k' : Int) < (l.length : Int) := by omega
          clear HF2 HX0 HC2 HNM hP' hp' hkk' hk0
          go_wp2_with (go_at_call 16; refine (HRT _).out.mono ?_; rintro e w' ⟨rfl, rfl⟩)
          all_goals first
            | (have key : RR = false := by (rw [← HR.out, HKK.out, HPV.out]; clear HAT HIH HB HRR HK HRS HKX HHP HPK HRT; go_light; first | (simp [*]; done) | grind [List.isEmpty_iff])
               go_ret
               exact ⟨by rw [key]; rfl, HKX.out _⟩)
            | (have key : rs = RR := by (rw [← HR.out, HKK.out, HPV.out]; clear HAT HIH HB HRR HK HRS HKX HHP HPK HRT; go_light; first | (simp [*]; done) | grind [List.isEmpty_iff])
               go_roundw
               case rel => exact ⟨k + 1, by omega, by go_num, HKX.out _, by rw [HPK.out, HRS.out]; exact key⟩
               case measure => simp [intOf]; omega)
      · as_aux_lemma => -- a sign of a number
        have HR : Hid ((plainB p h && true && rs) = RR) := by
          unfold Hid
          rw [← plain_nocase (fun m => rightF n m (decide (p.k ≠ 4))) p h _ rs (by omega), ← HF2.out, hkk]
          simp
        have HKK : Hid (plainB p h = (h && !decide (0 < (p.cs.length : Int)) && decide (p.tx.toList = []) && decide (p.nm.toList = []) && decide (p.ty.toList = []) && decide (p.st.toList = []) && (p.off == 0))) := by
          unfold Hid plainB
          rw [if_neg (by omega), if_pos hkk, noB_l, noB_l, noB_l, noB_l]
          have e1 : decide (p.cs.length = 0) = !decide (0 < (p.cs.length : Int)) := by rw [Bool.eq_iff_iff]; simp
          have e2 : decide (p.off = 0) = (p.off == 0) := by rw [Bool.eq_iff_iff]; simp
          rw [e1, e2]
        rw [hkk] at a0
        clear HF2 HX0 HC2 HNM
        by_cases htx : p.tx.toList = []
        all_goals
          cases h
        all_goals
          go_wp2
          all_goals first
            | (have key : RR = false := by (rw [← HR.out, HKK.out]; clear HAT HIH HB HRR HK HRS HKX HHP HPK; go_light; first | (simp [*]; done) | grind [List.isEmpty_iff])
               go_ret
               exact ⟨by rw [key]; rfl, HKX.out _⟩)
            | (have key : rs = RR := by (rw [← HR.out, HKK.out]; clear HAT HIH HB HRR HK HRS HKX HHP HPK; go_light; first | (simp [*]; done) | grind [List.isEmpty_iff])
               go_roundw
               case rel => exact ⟨k + 1, by omega, by go_num, HKX.out _, by rw [HPK.out, HRS.out]; exact key⟩
               case measure => simp [intOf]; omega)
      · as_aux_lemma => -- an argument
        have HR : Hid ((plainB p h && true && rs) = RR) := by
          unfold Hid
          rw [← plain_nocase (fun m => rightF n m (decide (p.k ≠ 4))) p h _ rs (by omega), ← HF2.out, hkk]
          simp
        have HKK : Hid (plainB p h = ((decide (p.ty.toList = []) || memW typesW p.ty) && (decide (p.st.toList = []) || (!decide (p.ty.toList = []) && isStyleB p.st)) && isNameB p.nm && !decide (0 < (p.cs.length : Int)) && decide (p.tx.toList = []) && (p.off == 0))) := by
          unfold Hid plainB
          rw [if_neg (by omega), if_neg (by omega), if_pos hkk, noB_l, noB_l, noB_l]
          have e1 : decide (p.cs.length = 0) = !decide (0 < (p.cs.length : Int)) := by rw [Bool.eq_iff_iff]; simp
          have e2 : decide (p.off = 0) = (p.off == 0) := by rw [Bool.eq_iff_iff]; simp
          rw [e1, e2]
        have HTY : ∀ W, Hid (Calls Tryz.prog 57 #[.string p.ty] W fun e w' => e = .returned (.bool (memW typesW p.ty)) ∧ W = w') := fun W => type19_any p.ty W
        have HST : ∀ W, Hid (Calls Tryz.prog 58 #[.string p.st] W fun e w' => e = .returned (.bool (isStyleB p.st)) ∧ W = w') := fun W => isStyle19_any p.st W (by omega)
        rw [hkk] at a0
        generalize isNameB p.nm = qn at *
        generalize memW typesW p.ty = qt at *
        generalize isStyleB p.st = qs at *
        clear HF2 HX0 HC2
        by_cases htx : p.tx.toList = []
        · cases qn
          · go_wp2_with (go_at_call 56; refine (HNM _).out.mono ?_; rintro e w' ⟨rfl, rfl⟩)
            all_goals first
              | (have key : RR = false := by (rw [← HR.out, HKK.out]; clear HAT HIH HB HRR HK HRS HKX HHP HPK HNM HTY HST; go_light; first | (simp [*]; done) | grind [List.isEmpty_iff])
                 go_ret
                 exact ⟨by rw [key]; rfl, HKX.out _⟩)
              | (have key : rs = RR := by (rw [← HR.out, HKK.out]; clear HAT HIH HB HRR HK HRS HKX HHP HPK HNM HTY HST; go_light; first | (simp [*]; done) | grind [List.isEmpty_iff])
                 go_roundw
                 case rel => exact ⟨k + 1, by omega, by go_num, HKX.out _, by rw [HPK.out, HRS.out]; exact key⟩
                 case measure => simp [intOf]; omega)
          · cases hty : p.ty.toList.isEmpty
            · have hty' : ¬ p.ty.toList = [] := by intro h; rw [h] at hty; cases hty
              cases qt
              · go_wp2_with (first | (go_at_call 56; refine (HNM _).out.mono ?_; rintro e w' ⟨rfl, rfl⟩) | (go_at_call 57; refine (HTY _).out.mono ?_; rintro e w' ⟨rfl, rfl⟩))
                all_goals first
                  | (have key : RR = false := by (rw [← HR.out, HKK.out]; clear HAT HIH HB HRR HK HRS HKX HHP HPK HNM HTY HST; go_light; first | (simp [*]; done) | grind [List.isEmpty_iff])
                     go_ret
                     exact ⟨by rw [key]; rfl, HKX.out _⟩)
                  | (have key : rs = RR := by (rw [← HR.out, HKK.out]; clear HAT HIH HB HRR HK HRS HKX HHP HPK HNM HTY HST; go_light; first | (simp [*]; done) | grind [List.isEmpty_iff])
                     go_roundw
                     case rel => exact ⟨k + 1, by omega, by go_num, HKX.out _, by rw [HPK.out, HRS.out]; exact key⟩
                     case measure => simp [intOf]; omega)
              · by_cases hst : p.st.toList = []
                · go_wp2_with (first | (go_at_call 56; refine (HNM _).out.mono ?_; rintro e w' ⟨rfl, rfl⟩) | (go_at_call 57; refine (HTY _).out.mono ?_; rintro e w' ⟨rfl, rfl⟩))
                  all_goals first
                    | (have key : RR = false := by (rw [← HR.out, HKK.out]; clear HAT HIH HB HRR HK HRS HKX HHP HPK HNM HTY HST; go_light; first | (simp [*]; done) | grind [List.isEmpty_iff])
                       go_ret
                       exact ⟨by rw [key]; rfl, HKX.out _⟩)
                    | (have key : rs = RR := by (rw [← HR.out, HKK.out]; clear HAT HIH HB HRR HK HRS HKX HHP HPK HNM HTY HST; go_light; first | (simp [*]; done) | grind [List.isEmpty_iff])
                       go_roundw
                       case rel => exact ⟨k + 1, by omega, by go_num, HKX.out _, by rw [HPK.out, HRS.out]; exact key⟩
                       case measure => simp [intOf]; omega)
                · cases qs
                  all_goals
                    go_wp2_with (first | (go_at_call 56; refine (HNM _).out.mono ?_; rintro e w' ⟨rfl, rfl⟩) | (go_at_call 57; refine (HTY _).out.mono ?_; rintro e w' ⟨rfl, rfl⟩) | (go_at_call 58; refine (HST _).out.mono ?_; rintro e w' ⟨rfl, rfl⟩))
                    all_goals first
                      | (have key : RR = false := by (rw [← HR.out, HKK.out]; clear HAT HIH HB HRR HK HRS HKX HHP HPK HNM HTY HST; go_light; first | (simp [*]; done) | grind [List.isEmpty_iff])
                         go_ret
                         exact ⟨by rw [key]; rfl, HKX.out _⟩)
                      | (have key : rs = RR := by (rw [← HR.out, HKK.out]; clear HAT HIH HB HRR HK HRS HKX HHP HPK HNM HTY HST; go_light; first | (simp [*]; done) | grind [List.isEmpty_iff])
                         go_roundw
                         case rel => exact ⟨k + 1, by omega, by go_num, HKX.out _, by rw [HPK.out, HRS.out]; exact key⟩
                         case measure => simp [intOf]; omega)
            · have hty' : p.ty.toList = [] := List.isEmpty_iff.1 hty
              by_cases hst : p.st.toList = []
              all_goals
                go_wp2_with (go_at_call 56; refine (HNM _).out.mono ?_; rintro e w' ⟨rfl, rfl⟩)
                all_goals first
                  | (have key : RR = false := by (rw [← HR.out, HKK.out]; clear HAT HIH HB HRR HK HRS HKX HHP HPK HNM HTY HST; go_light; first | (simp [*]; done) | grind [List.isEmpty_iff])
                     go_ret
                     exact ⟨by rw [key]; rfl, HKX.out _⟩)
                  | (have key : rs = RR := by (rw [← HR.out, HKK.out]; clear HAT HIH HB HRR HK HRS HKX HHP HPK HNM HTY HST; go_light; first | (simp [*]; done) | grind [List.isEmpty_iff])
                     go_roundw
                     case rel => exact ⟨k + 1, by omega, by go_num, HKX.out _, by rw [HPK.out, HRS.out]; exact key⟩
                     case measure => simp [intOf]; omega)
        · go_wp2
          all_goals first
            | (have key : RR = false := by (rw [← HR.out, HKK.out]; clear HAT HIH HB HRR HK HRS HKX HHP HPK HNM HTY HST; go_light; first | (simp [*]; done) | grind [List.isEmpty_iff])
               go_ret
               exact ⟨by rw [key]; rfl, HKX.out _⟩)
            | (have key : rs = RR := by (rw [← HR.out, HKK.out]; clear HAT HIH HB HRR HK HRS HKX HHP HPK HNM HTY HST; go_light; first | (simp [*]; done) | grind [List.isEmpty_iff])
               go_roundw
               case rel => exact ⟨k + 1, by omega, by go_num, HKX.out _, by rw [HPK.out, HRS.out]; exact key⟩
               case measure => simp [intOf]; omega)
      · as_aux_lemma => -- a choice
        obtain ⟨hk4, hk6⟩ := hkk
        have e1 : (p.k == 1) = false := by simp; omega
        have e2 : (p.k == 2) = false := by simp; omega
        have e3 : (p.k == 3) = false := by simp; omega
        have e4 : ¬ p.k < 4 := by omega
        have e6 : ¬ 6 < p.k := by omega
        have hob : otherB p = memW (p.cs.map Prod.fst) otherW := by unfold otherB; rw [decide_eq_false (by omega)]; rfl
        have hsg := findX_sign (p.cs.map Prod.fst) otherW
        have hkl := @keys_len p.cs
        obtain ⟨CR, hCR⟩ : ∃ CR, caseR (fun m => rightF n m (decide (p.k ≠ 4))) p.k [] p.cs = CR := ⟨_, rfl⟩
        obtain ⟨ob, hobe⟩ : ∃ ob, memW (p.cs.map Prod.fst) otherW = ob := ⟨_, rfl⟩
        have hF3 := HF2.out
        rw [e1, hCR, hob, hobe] at hF3
        rw [hobe] at hsg hkl
        have HF3 : Hid ((plainB p h && CR && ob && rs) = RR) := by unfold Hid; rw [← hF3]; simp
        have HCR := Lib.hid hCR
        have HKK : Hid (plainB p h = (decide (0 ≤ p.off) && decide (p.off ≤ 999999999) && (!(p.k == 4) || (p.off == 0)) && !decide (p.cs.length = 0) && isNameB p.nm && decide (p.tx.toList = []) && decide (p.ty.toList = []) && decide (p.st.toList = []))) := by
          unfold Hid plainB
          rw [if_neg (by omega), if_neg (by omega), if_neg (by omega), if_pos (by omega), noB_l, noB_l, noB_l]
          have e1 : decide (p.k ≠ 4) = !(p.k == 4) := by rw [Bool.eq_iff_iff]; simp
          have e2 : decide (p.off = 0) = (p.off == 0) := by rw [Bool.eq_iff_iff]; simp
          rw [e1, e2]
        obtain ⟨A2, cap2, he, _, hcat⟩ := liesC_open HC2.out
        injection he with he1 he2 he3
        subst he1; subst he3
        have HCAT := Lib.hid hcat
        have HFD : ∀ W, W.heap = (wr.alloc (.cells #[.int .i64 p.k, .string p.tx, .string p.nm, .string p.ty, .string p.st, .int .i64 p.off, .slice Ac p.cs.length cc] 47)).heap → Hid (Calls Tryz.prog 59 #[.slice Ac p.cs.length cc, .string ⟨#[111, 116, 104, 101, 114]⟩] W fun e w' => e = .returned (.int .i64 (findX (p.cs.map Prod.fst) otherW)) ∧ W = w') := fun W hW => by
          have hk : KeyAt W Ac p.cs := fun i c hc => by
            obtain ⟨b3, o3, pv, hA3, hb3, g1, _⟩ := HCAT.out i c hc
            exact ⟨b3, o3, hA3, by rw [hW]; exact hb3, (cell_heap hW _).trans g1⟩
          have := find19_any p.cs Ac cc p.cs.length otherW W hk (Nat.le_refl _) hcl
          rw [show (p.cs.map Prod.fst).take p.cs.length = p.cs.map Prod.fst from List.take_of_length_le (by simp)] at this
          exact this
        clear hcat he2 hF3 hob hCR hobe HF2
        generalize findX (p.cs.map Prod.fst) otherW = fx at *
        generalize isNameB p.nm = qn at *
        by_cases htx : p.tx.toList = []
        case neg =>
          have KEY : Hid (RR = false) := by (unfold Hid; rw [← HF3.out, HKK.out]; simp [*])
          clear HKK HF3
          as_aux_lemma =>
          go_wp2
          go_ret
          exact ⟨by rw [KEY.out]; rfl, HKX.out _⟩
        cases qn
        case false =>
          have KEY : Hid (RR = false) := by (unfold Hid; rw [← HF3.out, HKK.out]; simp [*])
          clear HKK HF3
          as_aux_lemma =>
          go_wp2_with (first | (go_at_call 56; refine (HNM _).out.mono ?_; rintro e w' ⟨rfl, rfl⟩))
          go_ret
          exact ⟨by rw [KEY.out]; rfl, HKX.out _⟩
        by_cases hty : p.ty.toList = []
        case neg =>
          have KEY : Hid (RR = false) := by (unfold Hid; rw [← HF3.out, HKK.out]; simp [*])
          clear HKK HF3
          as_aux_lemma =>
          go_wp2_with (first | (go_at_call 56; refine (HNM _).out.mono ?_; rintro e w' ⟨rfl, rfl⟩))
          go_ret
          exact ⟨by rw [KEY.out]; rfl, HKX.out _⟩
        by_cases hst : p.st.toList = []
        case neg =>
          have KEY : Hid (RR = false) := by (unfold Hid; rw [← HF3.out, HKK.out]; simp [*])
          clear HKK HF3
          as_aux_lemma =>
          go_wp2_with (first | (go_at_call 56; refine (HNM _).out.mono ?_; rintro e w' ⟨rfl, rfl⟩))
          go_ret
          exact ⟨by rw [KEY.out]; rfl, HKX.out _⟩
        cases ob
        case false =>
          have hfx : fx < 0 := by simpa using hsg
          have KEY : Hid (RR = false) := by (unfold Hid; rw [← HF3.out, HKK.out]; simp [*])
          clear HKK HF3
          as_aux_lemma =>
          go_wp2_with (first | (go_at_call 56; refine (HNM _).out.mono ?_; rintro e w' ⟨rfl, rfl⟩) | (go_at_call 59; refine (HFD _ (by rfl)).out.mono ?_; rintro e w' ⟨rfl, rfl⟩))
          go_ret
          exact ⟨by rw [KEY.out]; rfl, HKX.out _⟩
        have hfx : ¬ fx < 0 := by simpa using hsg
        have hcl0 : ¬ p.cs.length = 0 := hkl rfl
        by_cases ho1 : p.off < 0
        · have ho1' : ¬ 0 ≤ p.off := by omega
          have KEY : Hid (RR = false) := by (unfold Hid; rw [← HF3.out, HKK.out]; simp [*])
          clear HKK HF3
          as_aux_lemma =>
          go_wp2_with (first | (go_at_call 56; refine (HNM _).out.mono ?_; rintro e w' ⟨rfl, rfl⟩) | (go_at_call 59; refine (HFD _ (by rfl)).out.mono ?_; rintro e w' ⟨rfl, rfl⟩))
          go_ret
          exact ⟨by rw [KEY.out]; rfl, HKX.out _⟩
        have ho1' : 0 ≤ p.off := by omega
        by_cases ho2 : 999999999 < p.off
        · have ho2' : ¬ p.off ≤ 999999999 := by omega
          have KEY : Hid (RR = false) := by (unfold Hid; rw [← HF3.out, HKK.out]; simp [*])
          clear HKK HF3
          as_aux_lemma =>
          go_wp2_with (first | (go_at_call 56; refine (HNM _).out.mono ?_; rintro e w' ⟨rfl, rfl⟩) | (go_at_call 59; refine (HFD _ (by rfl)).out.mono ?_; rintro e w' ⟨rfl, rfl⟩))
          go_ret
          exact ⟨by rw [KEY.out]; rfl, HKX.out _⟩
        have ho2' : p.off ≤ 999999999 := by omega
        by_cases ho3 : p.k = 4 ∧ ¬ p.off = 0
        · obtain ⟨ho3, ho4⟩ := ho3
          have ho3' : (p.k == 4) = true := by simpa using ho3
          have ho4' : (p.off == 0) = false := by simpa using ho4
          have ho4'' : (p.off != 0) = true := by simpa using ho4
          clear ho3
          have KEY : Hid (RR = false) := by (unfold Hid; rw [← HF3.out, HKK.out]; simp [*])
          clear HKK HF3
          as_aux_lemma =>
          go_wp2_with (first | (go_at_call 56; refine (HNM _).out.mono ?_; rintro e w' ⟨rfl, rfl⟩) | (go_at_call 59; refine (HFD _ (by rfl)).out.mono ?_; rintro e w' ⟨rfl, rfl⟩))
          go_ret
          exact ⟨by rw [KEY.out]; rfl, HKX.out _⟩
        have hkg : (!(p.k == 4) || (p.off == 0)) = true := by
          by_cases h4 : p.k = 4
          · have : p.off = 0 := by
              by_cases h0 : p.off = 0
              · exact h0
              · exact absurd ⟨h4, h0⟩ ho3
            rw [this]; simp
          · simp [h4]
        have HF4 : Hid ((CR && rs) = RR) := by
          unfold Hid
          rw [← HF3.out, HKK.out, hkg]
          simp [*]
        clear HF3 HKK hsg hkl ho3
        have hx1 := HX0.out
        have HXX := Lib.hid hx1
        clear hx1
        have ho5 : (p.k == 4) = true → p.off = 0 := fun h4 => by
          by_cases h0 : p.off = 0
          · exact h0
          · rw [h4] at hkg; simp [h0] at hkg
        obtain ⟨q4, hq4⟩ : ∃ q4, (p.k == 4) = q4 := ⟨_, rfl⟩
        rw [hq4] at ho5
        cases q4
        all_goals
          try have ho6 : (p.off == 0) = true := by (rw [ho5 rfl]; rfl)
          try have ho7 : (p.off != 0) = false := by (rw [ho5 rfl]; rfl)
          clear hkg ho5
          have hKW1 := HKX.out (.cells #[.int .i64 p.k, .string p.tx, .string p.nm, .string p.ty, .string p.st, .int .i64 p.off, .slice Ac p.cs.length cc] 47)
          have HCL := Lib.hid HC2.out
          go_wp2_with (first | (go_at_call 56; refine (HNM _).out.mono ?_; rintro e w' ⟨rfl, rfl⟩) | (go_at_call 59; refine (HFD _ (by rfl)).out.mono ?_; rintro e w' ⟨rfl, rfl⟩))
          have hx1 := HXX.out
          generalize hGW : wr.alloc (.cells #[.int .i64 p.k, .string p.tx, .string p.nm, .string p.ty, .string p.st, .int .i64 p.off, .slice Ac p.cs.length cc] 47) = W1 at *
          clear a0 a1 a2 a3 a4 a5 a6 hGW HKX HX0 HC2 HFD
          have HK1 := Lib.hid hKW1
          clear hKW1
          generalize wr.heap.size = bx at *
          go_loopw [7] (fun j wx => ∃ m : Nat, m ≤ p.cs.length ∧ j = .int .i64 m ∧ Keep [] W1 wx ∧ caseR (fun m => rightF n m (decide (p.k ≠ 4))) p.k ((p.cs.take m).map Prod.fst) (p.cs.drop m) = CR) (fun j _ => p.cs.length - (intOf j).toNat)
          case atStart => exact ⟨0, Nat.zero_le _, rfl, Keep.refl _ _, HCR.out⟩
          case round => as_aux_lemma =>
            obtain ⟨m, hm, rfl, hKi, hG⟩ := hrel
            have HKi := Lib.hid hKi
            have HG := Lib.hid hG
            have hX := hx1.keep hKi (by simp)
            clear hKi hG
            have y0 : wr.cell? ⟨bx, 0, none⟩ = some (.int .i64 p.k) := hX.cell_eq rfl
            have y6 : wr.cell? ⟨bx, 6, none⟩ = some (.slice Ac p.cs.length cc) := hX.cell_eq rfl
            have hbxr := hX.lt
            by_cases hlt2 : m < p.cs.length
            · obtain ⟨c, hc⟩ : ∃ c, p.cs[m]? = some c := ⟨_, List.getElem?_eq_getElem hlt2⟩
              obtain ⟨b2, o2, pv, hAc, hb2, g1, g2, hL⟩ := HCAT.out m c hc
              have hAc' := hAc
              subst hAc
              have g1' := (HKi.out.cell (p := ⟨b2, o2 + m * 2, none⟩) hb2 (by simp)).trans g1
              have g2' := (HKi.out.cell (p := ⟨b2, o2 + m * 2 + 1, none⟩) hb2 (by simp)).trans g2
              obtain ⟨Ap, mp, kp, rfl⟩ := hL.form
              have hb2r := Nat.lt_of_lt_of_le hb2 HKi.out.size
              have hbc := bulkC_at (bulkF n) p.cs m c hc
              have hdr : p.cs.drop m = c :: p.cs.drop (m + 1) := by
                rw [List.drop_eq_getElem_cons hlt2, (List.getElem?_eq_some_iff.1 hc).2]
              have hkeys : (p.cs.take (m + 1)).map Prod.fst = (p.cs.take m).map Prod.fst ++ [c.1] := by rw [take_snoc' hc]; simp
              have hG2 := HG.out
              rw [hdr, caseR] at hG2
              have HG2 : Hid ((!memW ((p.cs.map Prod.fst).take m) c.1 && isKeyB p.k c.1 && rightF n c.2 (decide (p.k ≠ 4)) && caseR (fun m => rightF n m (decide (p.k ≠ 4))) p.k ((p.cs.take (m + 1)).map Prod.fst) (p.cs.drop (m + 1))) = CR) := by
                unfold Hid
                rw [hkeys, ← List.map_take]; exact hG2
              have hk4' : (p.k != 4) = decide (p.k ≠ 4) := by rw [Bool.eq_iff_iff]; simp
              have hcc : p.cs.length ≤ cc := by
                obtain ⟨_, _, ⟨A3, c3, he3, h13, _⟩, _⟩ := HCL.out
                injection he3 with _ _ e3
                omega
              have hmc : m ≤ cc := by omega
              have hmc' : (m : Int) ≤ cc := by omega
              have hkx : Keep [] wr (wr.alloc (.cells #[.string c.1, .slice Ap mp kp] 51)) := (Keep.refl [] wr).alloc _
              have hcb := Blk.new wr 51 #[.string c.1, .slice Ap mp kp]
              have hX2 := hX.keep hkx (by simp)
              have HKW := Lib.hid ((HK1.out.nil HKi.out).nil hkx)
              have HKV := Lib.hid (HKi.out.nil hkx)
              have hRC : ∀ W, Keep [] (wr.alloc (.cells #[.string c.1, .slice Ap mp kp] 51)) W → Calls Tryz.prog 26 #[.slice Ap mp kp, .bool (p.k != 4)] W fun e w' => e = .returned (.bool (rightF n c.2 (decide (p.k ≠ 4)))) ∧ Keep [] W w' := fun W hW => hk4' ▸ HIH.out c.2 _ S _ W (hL.keep (HKV.out.nil hW) (by simp)) (by omega)
              have HRC := Lib.hid hRC
              have HKC : ∀ W, Hid (Calls Tryz.prog 60 #[.string c.1, .int .i64 p.k] W fun e w' => e = .returned (.bool (isKeyB p.k c.1)) ∧ W = w') := fun W => isKey19_any c.1 p.k W (by omega)
              have HFE : ∀ W, W.heap = (wr.alloc (.cells #[.string c.1, .slice Ap mp kp] 51)).heap → Hid (Calls Tryz.prog 59 #[.slice (some ⟨b2, o2, none⟩) m cc, .string c.1] W fun e w' => e = .returned (.int .i64 (findX ((p.cs.map Prod.fst).take m) c.1)) ∧ W = w') := fun W hW => by
                have hk : KeyAt W (some ⟨b2, o2, none⟩) p.cs := fun i d hd => by
                  obtain ⟨b3, o3, pv, hA3, hb3, r1, _⟩ := HCAT.out i d hd
                  exact ⟨b3, o3, hA3, by rw [hW]; exact Nat.lt_of_lt_of_le hb3 HKV.out.size, (cell_heap hW _).trans ((HKV.out.cell (p := ⟨b3, o3 + i * 2, none⟩) hb3 (by simp)).trans r1)⟩
                exact find19_any p.cs _ cc m c.1 W hk hm hcl
              have hsg := findX_sign ((p.cs.map Prod.fst).take m) c.1
              generalize findX ((p.cs.map Prod.fst).take m) c.1 = fx2 at *
              generalize memW ((p.cs.map Prod.fst).take m) c.1 = tw at *
              generalize isKeyB p.k c.1 = ik at *
              generalize rightF n c.2 (decide (p.k ≠ 4)) = rc at *
              clear g1 g2 hL hc hdr hkeys hG2 HG hk4' hX hRC hAc'
              go_upto_region 25 with fail
              have c0 : (wr.alloc (.cells #[.string c.1, .slice Ap mp kp] 51)).cell? ⟨wr.heap.size, 0, none⟩ = some (.string c.1) := hcb.cell_eq rfl
              have c1 : (wr.alloc (.cells #[.string c.1, .slice Ap mp kp] 51)).cell? ⟨wr.heap.size, 1, none⟩ = some (.slice Ap mp kp) := hcb.cell_eq rfl
              have q0 : (wr.alloc (.cells #[.string c.1, .slice Ap mp kp] 51)).cell? ⟨bx, 0, none⟩ = some (.int .i64 p.k) := hX2.cell_eq rfl
              have q6 : (wr.alloc (.cells #[.string c.1, .slice Ap mp kp] 51)).cell? ⟨bx, 6, none⟩ = some (.slice (some ⟨b2, o2, none⟩) p.cs.length cc) := hX2.cell_eq rfl
              have hbx3 := hX2.lt
              have hcb3 := hcb.lt
              clear y0 y6 g1' g2' hcb hX2 hkx
              generalize wr.alloc (.cells #[.string c.1, .slice Ap mp kp] 51) = W3 at *
              generalize wr.heap.size = cb at *
              cases tw
              case true =>
                have HR : Hid (RR = false) := by unfold Hid; rw [← HF4.out, ← HG2.out]; rfl
                have hf : 0 ≤ fx2 := by simpa using hsg
                go_quiet ((go_at_call 59; exact Calls.quiet_of_same ((HFE _ (by rfl)).out.mono (fun e w' h => ⟨h.1, h.2.symm⟩))))
                go_wp2
                go_ret
                exact ⟨by rw [HR.out]; rfl, HKW.out.drewN _⟩
              case false =>
                have hf : ¬ 0 ≤ fx2 := by simpa using hsg
                cases ik
                case false =>
                  have HR : Hid (RR = false) := by unfold Hid; rw [← HF4.out, ← HG2.out]; rfl
                  go_quiet (first | (go_at_call 59; exact Calls.quiet_of_same ((HFE _ (by rfl)).out.mono (fun e w' h => ⟨h.1, h.2.symm⟩))) | (go_at_call 60; exact Calls.quiet_of_same ((HKC _).out.mono (fun e w' h => ⟨h.1, h.2.symm⟩))))
                  go_wp2
                  go_ret
                  exact ⟨by rw [HR.out]; rfl, HKW.out.drewN _⟩
                case true =>
                  have HG3 : Hid ((rc && caseR (fun m => rightF n m (decide (p.k ≠ 4))) p.k ((p.cs.take (m + 1)).map Prod.fst) (p.cs.drop (m + 1))) = CR) := by unfold Hid; rw [← HG2.out]; rfl
                  go_region_held3 (fun W => W.cell? ⟨bx, 0, none⟩ = some (.int .i64 p.k) ∧ W.cell? ⟨bx, 6, none⟩ = some (.slice (some ⟨b2, o2, none⟩) p.cs.length cc) ∧ W.cell? ⟨cb, 0, none⟩ = some (.string c.1) ∧ W.cell? ⟨cb, 1, none⟩ = some (.slice Ap mp kp) ∧ Keep [] W3 W) (first | exact ⟨q0, q6, c0, c1, (Keep.refl [] W3).drew⟩ | exact FK4 (W := World.drew W3) ⟨q0, q6, c0, c1, (Keep.refl [] W3).drew⟩ HK9.out hbx3 hbx3 hcb3 hcb3) (first | (go_at_call 59; refine (HFE _ (by rfl)).out.mono ?_; rintro e w4 ⟨rfl, rfl⟩) | (go_at_call 60; refine (HKC _).out.mono ?_; rintro e w5 ⟨rfl, rfl⟩) | (go_at_call 26; refine (HRC.out _ (by repeat (first | exact Keep.refl _ _ | refine Keep.drew ?_ | refine Keep.drewN ?_ _))).mono ?_; rintro e w9 ⟨rfl, hk9⟩; have HK9 := Lib.hid hk9; clear hk9))
                  cases rc
                  · have HR : Hid (RR = false) := by unfold Hid; rw [← HF4.out, ← HG3.out]; rfl
                    go_wp2
                    go_ret
                    exact ⟨by rw [HR.out]; rfl, HKW.out.drew.nil HK9.out⟩
                  · go_wp2
                    go_roundw
                    case rel => exact ⟨m + 1, by omega, by go_num, HKV.out.drew.nil HK9.out, HG3.out⟩
                    case measure => simp [intOf]; omega
            · obtain rfl : m = p.cs.length := by omega
              have hG2 := HG.out
              rw [List.drop_length] at hG2
              have HR : Hid (rs = RR) := by unfold Hid; rw [← HF4.out, ← hG2]; rfl
              clear hG2
              go_wp2
              go_roundw
              case rel => exact ⟨k + 1, by omega, by go_num, HK1.out.nil HKi.out, by rw [HPK.out, HRS.out]; exact HR.out⟩
              case measure => simp [intOf]; omega
      · as_aux_lemma => -- no kind
        have HR : Hid (RR = false) := by
          unfold Hid
          rw [← HF2.out]
          have : plainB p h = false := by unfold plainB; rw [if_neg (by omega), if_neg (by omega), if_neg (by omega), if_neg (by omega)]
          rw [this]; rfl
        have e1 : (p.k == 1) = false := by simp; omega
        have e2 : (p.k == 2) = false := by simp; omega
        have e3 : (p.k == 3) = false := by simp; omega
        generalize isNameB p.nm = qn at *
        clear HF2 HX0 HC2
        by_cases h4 : p.k < 4
        · cases qn
          all_goals
            go_wp2_with (go_at_call 56; refine (HNM _).out.mono ?_; rintro e w' ⟨rfl, rfl⟩)
            all_goals
              go_ret
              exact ⟨by rw [HR.out]; rfl, HKX.out _⟩
        · have h6 : 6 < p.k := by omega
          cases qn
          all_goals
            go_wp2_with (go_at_call 56; refine (HNM _).out.mono ?_; rintro e w' ⟨rfl, rfl⟩)
            all_goals
              go_ret
              exact ⟨by rw [HR.out]; rfl, HKX.out _⟩
    · have hF := HF.out
      rw [List.drop_eq_nil_of_le (by omega)] at hF
      have HR : Hid (RR = true) := hF.symm
      clear hF
      go_wp2
      go_ret
      exact ⟨by rw [HR.out]; rfl, HK.out⟩
/-- vernacularref19.Right. -/
theorem right19_any : ∀ (n : Nat), Right19C n
  | 0 => fun _ _ _ _ _ h _ => h.elim
  | n + 1 => right19_step n (right19_any n)
end Go.Proofs.YtjldgcpmdcoejaaGreatDoor
