/- Walks: vernacularlaw19.small; vernacularref19.Size, Depth. -/
import Derived.Test.YtjldgcpmdcoejaaGreatDoorPB
namespace Go.Proofs.YtjldgcpmdcoejaaGreatDoor
open Go.RowKit

set_option maxRecDepth 100000 in
set_option maxHeartbeats 4000000 in
/-- vernacularref19.Size. -/
theorem size19_any : ∀ (n : Nat) (l : List PT) (S : Nat → Prop) (v : Value) (w : World), Lies n S w v l → bulkF n l ≤ 1000000000 →
    Calls Tryz.prog 27 #[v] w fun e w' => e = .returned (.int .i64 (sizeF n l)) ∧ w = w'
  | 0, _, _, _, _, h, _ => h.elim
  | n + 1, l, S, v, w, h, hb => by
    obtain ⟨A, cap, rfl, hml, hat⟩ := lies_open h
    have HAT := Lib.hid hat
    have HIH := Lib.hid (size19_any n)
    have hll : l.length ≤ 1000000000 := by have := bulkL_len (bulkF n) l; simp only [bulkF] at hb; omega
    have HB := Lib.hid hb
    clear h hat hml hb
    go_enter Tryz.func27, Tryz.ntmps27
    go_wp2
    go_loop [3, 4] (fun t i => ∃ k : Nat, k ≤ l.length ∧ i = .int .i64 k ∧ t = .int .i64 (l.length + sumL (sizeF n) (l.take k) : Nat)) (fun _ i => l.length - (intOf i).toNat)
    case atStart => exact ⟨0, Nat.zero_le _, rfl, by simp [sumL]⟩
    case round =>
      obtain ⟨k, hk, rfl, rfl⟩ := hrel
      by_cases hlt : k < l.length
      · obtain ⟨p, hp⟩ : ∃ p, l[k]? = some p := ⟨_, List.getElem?_eq_getElem hlt⟩
        obtain ⟨b, o, cv, rfl, hb, ⟨_, _, _, _, _, _, a6⟩, hC⟩ := HAT.out k p hp
        obtain ⟨Ac, cc, rfl, hcm, hcat⟩ := liesC_open hC
        have hS1 : sumL (sizeF n) (l.take (k + 1)) = sumL (sizeF n) (l.take k) + sumC (sizeF n) p.cs := by rw [take_snoc' hp, sumL_append]; simp [sumL]
        have hS2 := sumL_take (sizeF n) l (k + 1)
        have hS3 := sumL_le (size_le n) l
        have hbk := bulkL_at (bulkF n) l k p hp
        have hbL : bulkL (bulkF n) l ≤ 1000000000 := HB.out
        have HS1 := Lib.hid hS1
        have hcl : p.cs.length ≤ 1000000000 := by have := bulkC_len (bulkF n) p.cs; omega
        have HCAT := Lib.hid hcat
        clear hC hcat hS1 hp hcm
        generalize hbase : sumL (sizeF n) (l.take k) = base at *
        clear hbase
        go_wp2
        go_loop [3, 5] (fun t j => ∃ m : Nat, m ≤ p.cs.length ∧ j = .int .i64 m ∧ t = .int .i64 (l.length + (base + sumC (sizeF n) (p.cs.take m)) : Nat)) (fun _ j => p.cs.length - (intOf j).toNat)
        case atStart => exact ⟨0, Nat.zero_le _, rfl, by simp [sumC]⟩
        case round =>
          obtain ⟨m, hm, rfl, rfl⟩ := hrel
          by_cases hlt2 : m < p.cs.length
          · obtain ⟨c, hc⟩ : ∃ c, p.cs[m]? = some c := ⟨_, List.getElem?_eq_getElem hlt2⟩
            obtain ⟨b2, o2, pv, rfl, hb2, e1, e2, hL⟩ := HCAT.out m c hc
            have hs1 : sumC (sizeF n) (p.cs.take (m + 1)) = sumC (sizeF n) (p.cs.take m) + sizeF n c.2 := by rw [take_snoc' hc, sumC_append]; simp [sumC]
            have hs2 := sumC_take (sizeF n) p.cs (m + 1)
            have hs3 := HS1.out
            have hbc := bulkC_at (bulkF n) p.cs m c hc
            have hS : Hid (Calls Tryz.prog 27 #[pv] w fun e w' => e = .returned (.int .i64 (sizeF n c.2)) ∧ w = w') := HIH.out c.2 S _ w hL (by omega)
            have HS2 := Lib.hid hs1
            have hbound : l.length + (base + sumC (sizeF n) (p.cs.take m)) + sizeF n c.2 ≤ 1000000000 := by omega
            clear e1 hL hc hs1 hs2 hs3
            generalize sumC (sizeF n) (p.cs.take m) = sm at *
            go_wp2_with (go_at_call 27; refine hS.out.mono ?_; rintro e w5 ⟨rfl, rfl⟩)
            go_round
            case rel => exact ⟨m + 1, by omega, by go_num, by rw [HS2.out]; go_num⟩
            case measure => simp [intOf]; omega
          · obtain rfl : m = p.cs.length := by omega
            have hs3 := HS1.out
            rw [List.take_length]
            go_wp2
            go_round
            case rel => exact ⟨k + 1, by omega, by go_num, by rw [hs3]⟩
            case measure => simp [intOf]; omega
      · go_wp2
        go_ret
        obtain rfl : k = l.length := by omega
        exact ⟨by rw [List.take_length]; rfl, rfl⟩
set_option maxRecDepth 100000 in
set_option maxHeartbeats 4000000 in
/-- vernacularref19.Depth. -/
theorem depth19_any : ∀ (n : Nat) (l : List PT) (S : Nat → Prop) (v : Value) (w : World), Lies n S w v l → bulkF n l ≤ 1000000000 →
    Calls Tryz.prog 23 #[v] w fun e w' => e = .returned (.int .i64 (depthF n l)) ∧ w = w'
  | 0, _, _, _, _, h, _ => h.elim
  | n + 1, l, S, v, w, h, hb => by
    obtain ⟨A, cap, rfl, hml, hat⟩ := lies_open h
    have HAT := Lib.hid hat
    have HIH := Lib.hid (depth19_any n)
    have hll : l.length ≤ 1000000000 := by have := bulkL_len (bulkF n) l; simp only [bulkF] at hb; omega
    have HB := Lib.hid hb
    clear h hat hml hb
    go_enter Tryz.func23, Tryz.ntmps23
    go_wp2
    go_loop [3, 4] (fun t i => ∃ k : Nat, k ≤ l.length ∧ i = .int .i64 k ∧ t = .int .i64 (mostL (depthF n) 0 (l.take k) : Nat)) (fun _ i => l.length - (intOf i).toNat)
    case atStart => exact ⟨0, Nat.zero_le _, rfl, by simp [mostL]⟩
    case round =>
      obtain ⟨k, hk, rfl, rfl⟩ := hrel
      by_cases hlt : k < l.length
      · obtain ⟨p, hp⟩ : ∃ p, l[k]? = some p := ⟨_, List.getElem?_eq_getElem hlt⟩
        obtain ⟨b, o, cv, rfl, hb, ⟨a0, _, _, _, _, _, a6⟩, hC⟩ := HAT.out k p hp
        obtain ⟨Ac, cc, rfl, hcm, hcat⟩ := liesC_open hC
        have hS1 : mostL (depthF n) 0 (l.take (k + 1)) = mostC (depthF n) (mostL (depthF n) 0 (l.take k)) (casesP p) := by rw [take_snoc' hp, mostL_append]; rfl
        have hS2 := mostL_take_le (depth_le n) l k
        have hbk := bulkL_at (bulkF n) l k p hp
        have hbL : bulkL (bulkF n) l ≤ 1000000000 := HB.out
        have HS1 := Lib.hid hS1
        have hcl : p.cs.length ≤ 1000000000 := by have := bulkC_len (bulkF n) p.cs; omega
        have HCAT := Lib.hid hcat
        clear hC hcat hS1 hp hcm
        generalize mostL (depthF n) 0 (l.take k) = base at *
        by_cases hkd : p.k < 4 ∨ 6 < p.k
        · have HX : Hid (casesP p = []) := by unfold Hid casesP; rw [if_pos hkd]
          go_wp2
          go_loop [3, 5] (fun t j => t = .int .i64 (base : Nat) ∧ j = .int .i64 0) (fun _ _ => 0)
          case atStart => exact ⟨rfl, rfl⟩
          case round =>
            obtain ⟨rfl, rfl⟩ := hrel
            by_cases h4 : p.k < 4
            · by_cases hz : p.cs.length = 0
              · go_wp2
                go_round
                case rel => exact ⟨k + 1, by omega, by go_num, by rw [HS1.out, HX.out]; rfl⟩
                case measure => simp [intOf]; omega
              · have hz' : (0 : Int) < p.cs.length := by omega
                go_wp2
                go_round
                case rel => exact ⟨k + 1, by omega, by go_num, by rw [HS1.out, HX.out]; rfl⟩
                case measure => simp [intOf]; omega
            · have h4' : 4 ≤ p.k := by omega
              have h6' : ¬ p.k ≤ 6 := by omega
              by_cases hz : p.cs.length = 0
              · go_wp2
                go_round
                case rel => exact ⟨k + 1, by omega, by go_num, by rw [HS1.out, HX.out]; rfl⟩
                case measure => simp [intOf]; omega
              · have hz' : (0 : Int) < p.cs.length := by omega
                go_wp2
                go_round
                case rel => exact ⟨k + 1, by omega, by go_num, by rw [HS1.out, HX.out]; rfl⟩
                case measure => simp [intOf]; omega
        · have HX : Hid (casesP p = p.cs) := by unfold Hid casesP; rw [if_neg hkd]
          have h4' : 4 ≤ p.k := by omega
          have h6' : p.k ≤ 6 := by omega
          clear hkd
          go_wp2
          go_loop [3, 5] (fun t j => ∃ m : Nat, m ≤ p.cs.length ∧ j = .int .i64 m ∧ t = .int .i64 (mostC (depthF n) base (p.cs.take m) : Nat)) (fun _ j => p.cs.length - (intOf j).toNat)
          case atStart => exact ⟨0, Nat.zero_le _, rfl, by simp [mostC]⟩
          case round =>
            obtain ⟨m, hm, rfl, rfl⟩ := hrel
            by_cases hlt2 : m < p.cs.length
            · obtain ⟨c, hc⟩ : ∃ c, p.cs[m]? = some c := ⟨_, List.getElem?_eq_getElem hlt2⟩
              obtain ⟨b2, o2, pv, rfl, hb2, e1, e2, hL⟩ := HCAT.out m c hc
              have hs1 : mostC (depthF n) base (p.cs.take (m + 1)) = max (mostC (depthF n) base (p.cs.take m)) (1 + depthF n c.2) := by rw [take_snoc' hc, mostC_append]; rfl
              have hbc := bulkC_at (bulkF n) p.cs m c hc
              have hdl := depth_le n c.2
              have hml : mostC (depthF n) base (p.cs.take m) ≤ 1000000000 := by
                have h1 := mostC_le (depth_le n) base (p.cs.take m)
                have h2 : bulkC (bulkF n) (p.cs.take m) ≤ bulkC (bulkF n) p.cs := by
                  have happ : ∀ a b : List CT, bulkC (bulkF n) (a ++ b) = bulkC (bulkF n) a + bulkC (bulkF n) b := fun a b => by
                    induction a with
                    | nil => simp [bulkC]
                    | cons x a ih => simp only [List.cons_append, bulkC, ih]; omega
                  have := happ (p.cs.take m) (p.cs.drop m)
                  rw [List.take_append_drop] at this; omega
                omega
              have hS : Hid (Calls Tryz.prog 23 #[pv] w fun e w' => e = .returned (.int .i64 (depthF n c.2)) ∧ w = w') := HIH.out c.2 S _ w hL (by omega)
              have HS2 := Lib.hid hs1
              clear e1 hL hc hs1
              generalize mostC (depthF n) base (p.cs.take m) = sm at *
              generalize depthF n c.2 = dc at *
              go_wp2_with (go_at_call 23; refine hS.out.mono ?_; rintro e w5 ⟨rfl, rfl⟩)
              go_round
              case rel => exact ⟨m + 1, by omega, by go_num, by rw [HS2.out]; congr 1; omega⟩
              case measure => simp [intOf]; omega
            · obtain rfl : m = p.cs.length := by omega
              have hs3 := HS1.out
              rw [List.take_length]
              go_wp2
              go_round
              case rel => exact ⟨k + 1, by omega, by go_num, by rw [hs3, HX.out]⟩
              case measure => simp [intOf]; omega
      · go_wp2
        go_ret
        obtain rfl : k = l.length := by omega
        exact ⟨by rw [List.take_length]; rfl, rfl⟩
/-- A bool comes back. -/
def BoolRet (e : Ending) : Prop := ∃ b, e = .returned (.bool b)
set_option maxRecDepth 100000 in
set_option maxHeartbeats 4000000 in
/-- vernacularlaw19.small: it ends, and moves nothing. -/
theorem small_any : ∀ (n : Nat) (l : List PT) (d : Int) (S : Nat → Prop) (v : Value) (w : World), Lies n S w v l → bulkF n l ≤ 1000000000 → 0 ≤ d → d ≤ 41 →
    Calls Tryz.prog 10 #[v, .int .i64 d] w fun e w' => BoolRet e ∧ Keep [] w w'
  | 0, _, _, _, _, _, h, _, _, _ => h.elim
  | n + 1, l, d, S, v, w, h, hb, hd0, hd => by
    obtain ⟨A, cap, rfl, hml, hat⟩ := lies_open h
    have HAT := Lib.hid hat
    have HIH := Lib.hid (small_any n)
    have hll : l.length ≤ 1000000000 := by have := bulkL_len (bulkF n) l; simp only [bulkF] at hb; omega
    have HB := Lib.hid hb
    clear h hat hml hb
    by_cases h40 : 40 < d
    · go_enter Tryz.func10, Tryz.ntmps10
      go_wp2
      go_ret
      exact ⟨⟨_, rfl⟩, Keep.refl _ _⟩
    · have h40' : d ≤ 40 := by omega
      by_cases h12 : 1200 < l.length
      · have h12' : (1200 : Int) < l.length := by omega
        go_enter Tryz.func10, Tryz.ntmps10
        go_wp2
        go_ret
        exact ⟨⟨_, rfl⟩, Keep.refl _ _⟩
      · have h12' : ¬ (1200 : Int) < l.length := by omega
        go_enter Tryz.func10, Tryz.ntmps10
        go_wp2
        go_loopw [18] (fun i wr => ∃ k : Nat, k ≤ l.length ∧ i = .int .i64 k ∧ Keep [] w wr) (fun i _ => l.length - (intOf i).toNat)
        case atStart => exact ⟨0, Nat.zero_le _, rfl, Keep.refl _ _⟩
        case round =>
          obtain ⟨k, hk, rfl, hK⟩ := hrel
          have HK := Lib.hid hK
          clear hK
          by_cases hlt : k < l.length
          · obtain ⟨p, hp⟩ : ∃ p, l[k]? = some p := ⟨_, List.getElem?_eq_getElem hlt⟩
            obtain ⟨b, o, cv, rfl, hb, hP, hC⟩ := HAT.out k p hp
            obtain ⟨a0, a1, a2, a3, a4, a5, a6⟩ := hP.keep HK.out hb
            have hC1 := hC.keep HK.out (by simp)
            obtain ⟨Ac, cc, rfl⟩ := hC1.formL
            have hbk := bulkL_at (bulkF n) l k p hp
            have hbL : bulkL (bulkF n) l ≤ 1000000000 := HB.out
            have HC := Lib.hid hC1
            have hcl : p.cs.length ≤ 1000000000 := by have := bulkC_len (bulkF n) p.cs; omega
            have hbr := Nat.lt_of_lt_of_le hb HK.out.size
            clear hP hC hC1 hp
            have hKx : Keep [] wr (wr.alloc (.cells #[.int .i64 p.k, .string p.tx, .string p.nm, .string p.ty, .string p.st, .int .i64 p.off, .slice Ac p.cs.length cc] 47)) := (Keep.refl [] wr).alloc _
            have HKX := Lib.hid (HK.out.nil hKx)
            have HC2 := Lib.hid (HC.out.keep hKx (by simp))
            clear hKx HC
            by_cases h100 : 100 < p.cs.length
            · have h100' : (100 : Int) < p.cs.length := by omega
              go_wp2
              go_ret
              exact ⟨⟨_, rfl⟩, HKX.out⟩
            · have h100' : ¬ (100 : Int) < p.cs.length := by omega
              go_wp2
              clear a0 a1 a2 a3 a4 a5 a6
              generalize wr.alloc (.cells #[.int .i64 p.k, .string p.tx, .string p.nm, .string p.ty, .string p.st, .int .i64 p.off, .slice Ac p.cs.length cc] 47) = W1 at *
              generalize wr.heap.size = bx at *
              obtain ⟨A2, cap2, he, _, hcat⟩ := liesC_open HC2.out
              injection he with he1 he2 he3
              subst he1; subst he3
              have HCAT := Lib.hid hcat
              clear hcat
              go_loopw [29] (fun j wx => ∃ m : Nat, m ≤ p.cs.length ∧ j = .int .i64 m ∧ Keep [] W1 wx) (fun j _ => p.cs.length - (intOf j).toNat)
              case atStart => exact ⟨0, Nat.zero_le _, rfl, Keep.refl _ _⟩
              case round =>
                obtain ⟨m, hm, rfl, hKi⟩ := hrel
                have HKi := Lib.hid hKi
                clear hKi
                by_cases hlt2 : m < p.cs.length
                · obtain ⟨c, hc⟩ : ∃ c, p.cs[m]? = some c := ⟨_, List.getElem?_eq_getElem hlt2⟩
                  obtain ⟨b2, o2, pv, rfl, hb2, e1, e2, hL⟩ := HCAT.out m c hc
                  have e1' := (HKi.out.cell (p := ⟨b2, o2 + m * 2, none⟩) hb2 (by simp)).trans e1
                  have e2' := (HKi.out.cell (p := ⟨b2, o2 + m * 2 + 1, none⟩) hb2 (by simp)).trans e2
                  obtain ⟨Ap, mp, kp, rfl⟩ := hL.form
                  have hbr2 := Nat.lt_of_lt_of_le hb2 HKi.out.size
                  have hbc := bulkC_at (bulkF n) p.cs m c hc
                  have hS : Hid (∀ W, Keep [] W1 W → Calls Tryz.prog 10 #[.slice Ap mp kp, .int .i64 (d + 1)] W fun e w' => BoolRet e ∧ Keep [] W w') := fun W hW => HIH.out c.2 (d + 1) S _ W (hL.keep hW (by simp)) (by omega) (by omega) (by omega)
                  have m1 : IntKind.i64.wrap (d + 1) = d + 1 := IntWalk.i64_in _ (by omega)
                  clear e1 e2 hL hc
                  go_wp2_with (go_at_call 10; refine (hS.out _ (HKi.out.alloc _)).mono ?_; rintro e w5 ⟨⟨q, rfl⟩, hk5⟩; have HK5 := Lib.hid hk5; clear hk5; cases q)
                  all_goals first
                    | (go_ret; exact ⟨⟨_, rfl⟩, HKX.out.nil ((HKi.out.alloc _).nil HK5.out)⟩)
                    | (go_roundw
                       case rel => exact ⟨m + 1, by omega, by go_num, (HKi.out.alloc _).nil HK5.out⟩
                       case measure => simp [intOf]; omega)
                · obtain rfl : m = p.cs.length := by omega
                  go_wp2
                  go_roundw
                  case rel => exact ⟨k + 1, by omega, by go_num, HKX.out.nil HKi.out⟩
                  case measure => simp [intOf]; omega
          · go_wp2
            go_ret
            exact ⟨⟨_, rfl⟩, HK.out⟩
end Go.Proofs.YtjldgcpmdcoejaaGreatDoor
