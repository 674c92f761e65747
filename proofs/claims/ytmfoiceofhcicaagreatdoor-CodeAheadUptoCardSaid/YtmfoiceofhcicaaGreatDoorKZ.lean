/- Walks: lift of code: the parts that instructions say. -/
import Derived.Test.YtmfoiceofhcicaaGreatDoorKY
namespace Go.Proofs.YtmfoiceofhcicaaGreatDoor
open Go.RowKit Go.IntWalk

theorem OAt.keep {w w' : World} {b o : Nat} {x : OT} {u : Value × Value} {bs : List Nat} (h : OAt w b o x u) (hk : Keep bs w w') (hb : b < w.heap.size) (hn : b ∉ bs) : OAt w' b o x u := fun j c hc => (hk.cell (p := ⟨b, o + j, none⟩) hb hn).trans (h j c hc)
set_option maxRecDepth 100000 in
set_option maxHeartbeats 8000000 in
theorem lift_step (nest : Nat) (hnest : nest ≤ 1000) (ih : ∀ m, m + 1 = nest → LiC m) : LiC nest := by
  intro ops P i F w B xb hLst hi hol hka hF
  obtain ⟨pv, ov, mb, hX, hP, hO, hM⟩ := hLst
  obtain ⟨OA, oc, rfl⟩ := hO.form
  have HIH := Lib.hid ih
  have HO := Lib.hid hO
  have HX := Lib.hid hX
  have HP := Lib.hid hP
  have HM := Lib.hid hM
  have HKA := Lib.hid hka
  obtain ⟨TT, hTT⟩ : ∃ TT, liftF ops F nest i [] = TT := ⟨_, rfl⟩
  unfold LiftO
  rw [hTT]
  have HTT := Lib.hid hTT
  have HF := Lib.hid hF
  clear ih hO hX hP hM hTT hF hka
  go_enter Tryz.func53, Tryz.ntmps53
  go_wp2
  go_loopw [1, 9] (fun iv lv wr => ∃ (j F' : Nat) (acc : List PT), j ≤ ops.length ∧ iv = .int .i64 j ∧ ops.length + 1 - j ≤ F' ∧ OwnL nest wr w.heap.size lv acc ∧ acc.length ≤ j ∧ Keep [] w wr ∧ liftF ops F' nest j acc = TT) (fun iv _ _ => ops.length - (intOf iv).toNat)
  case atStart => exact ⟨i, F, [], hi, rfl, HF.out, OwnL.nil _ _ _, by simp, Keep.refl _ _, HTT.out⟩
  case round =>
    obtain ⟨j, F', acc, hj, rfl, hF', hL, hal, hK, hrel⟩ := hrel
    have x1 : wr.cell? ⟨xb, 1, none⟩ = some (.slice OA ops.length oc) := (HX.out.keep hK (by simp)).cell_eq rfl
    obtain ⟨LA, lc, rfl⟩ := hL.form
    have HL := Lib.hid hL
    have HK := Lib.hid hK
    have HREL := Lib.hid hrel
    clear hL hK hrel
    obtain ⟨F2, rfl⟩ : ∃ F2, F' = F2 + 1 := ⟨F' - 1, by omega⟩
    by_cases hlt : j < ops.length
    · obtain ⟨o, ho⟩ : ∃ o, ops[j]? = some o := ⟨_, List.getElem?_eq_getElem hlt⟩
      obtain ⟨b, oc', u, he, hBb, hbs, hAt, hks, hts⟩ := HO.out.at ho
      injection he with he1 _ he3
      subst he1; subst he3
      have hAt2 := hAt.keep HK.out hbs (by simp)
      have HATW := Lib.hid hAt
      have c0 : wr.cell? ⟨b, j * 10, none⟩ = some (.int .i64 (o.at_ : Int)) := hAt2 0 _ rfl
      have c1 : wr.cell? ⟨b, j * 10 + 1, none⟩ = some (.int .i64 (o.nx : Int)) := hAt2 1 _ rfl
      have c2 : wr.cell? ⟨b, j * 10 + 2, none⟩ = some (.int .i64 (o.k : Int)) := hAt2 2 _ rfl
      have c3 : wr.cell? ⟨b, j * 10 + 3, none⟩ = some (.string o.tx) := hAt2 3 _ rfl
      have c4 : wr.cell? ⟨b, j * 10 + 4, none⟩ = some (.string o.nm) := hAt2 4 _ rfl
      have c5 : wr.cell? ⟨b, j * 10 + 5, none⟩ = some (.string o.ty) := hAt2 5 _ rfl
      have c6 : wr.cell? ⟨b, j * 10 + 6, none⟩ = some (.string o.st) := hAt2 6 _ rfl
      have c7 : wr.cell? ⟨b, j * 10 + 7, none⟩ = some (.int .i64 (o.off : Int)) := hAt2 7 _ rfl
      have c8 : wr.cell? ⟨b, j * 10 + 8, none⟩ = some u.1 := hAt2 8 _ rfl
      have c9 : wr.cell? ⟨b, j * 10 + 9, none⟩ = some u.2 := hAt2 9 _ rfl
      obtain ⟨u1, u2⟩ := u
      obtain ⟨KA, kc, hku⟩ := hks.form
      obtain ⟨TA, tc, htu⟩ := hts.form
      simp only at hku htu c8 c9 hks hts
      subst hku; subst htu
      have HKS := Lib.hid hks
      obtain ⟨hok, hkl⟩ : o.k ≤ 7 ∧ o.ks.length ≤ 65535 := HKA.out o (List.mem_of_getElem? ho)
      have HO1 := Lib.hid ho
      clear hAt hAt2 hks hts ho
      go_upto_region 4 with fail
      have hx1 : Blk (wr.alloc (.cells #[.int .i64 (o.at_ : Int), .int .i64 (o.nx : Int), .int .i64 (o.k : Int), .string o.tx, .string o.nm, .string o.ty, .string o.st, .int .i64 (o.off : Int), .slice KA o.ks.length kc, .slice TA o.ts.length tc] 36)) wr.heap.size 36 #[.int .i64 (o.at_ : Int), .int .i64 (o.nx : Int), .int .i64 (o.k : Int), .string o.tx, .string o.nm, .string o.ty, .string o.st, .int .i64 (o.off : Int), .slice KA o.ks.length kc, .slice TA o.ts.length tc] := Blk.new _ _ _
      have hk1 : Keep [] wr (wr.alloc (.cells #[.int .i64 (o.at_ : Int), .int .i64 (o.nx : Int), .int .i64 (o.k : Int), .string o.tx, .string o.nm, .string o.ty, .string o.st, .int .i64 (o.off : Int), .slice KA o.ks.length kc, .slice TA o.ts.length tc] 36)) := (Keep.refl _ _).alloc _
      generalize wr.alloc (.cells #[.int .i64 (o.at_ : Int), .int .i64 (o.nx : Int), .int .i64 (o.k : Int), .string o.tx, .string o.nm, .string o.ty, .string o.st, .int .i64 (o.off : Int), .slice KA o.ks.length kc, .slice TA o.ts.length tc] 36) = W1 at *
      obtain ⟨tb, htb⟩ : ∃ tb, wr.heap.size = tb := ⟨_, rfl⟩
      rw [htb] at hx1 ⊢
      clear c0 c1 c2 c3 c4 c5 c6 c7 c8 c9
      have c2 : W1.cell? ⟨tb, 2, none⟩ = some (.int .i64 (o.k : Int)) := hx1.cell_eq rfl
      have c3 : W1.cell? ⟨tb, 3, none⟩ = some (.string o.tx) := hx1.cell_eq rfl
      have c4 : W1.cell? ⟨tb, 4, none⟩ = some (.string o.nm) := hx1.cell_eq rfl
      have c5 : W1.cell? ⟨tb, 5, none⟩ = some (.string o.ty) := hx1.cell_eq rfl
      have c6 : W1.cell? ⟨tb, 6, none⟩ = some (.string o.st) := hx1.cell_eq rfl
      have c7 : W1.cell? ⟨tb, 7, none⟩ = some (.int .i64 (o.off : Int)) := hx1.cell_eq rfl
      have c8 : W1.cell? ⟨tb, 8, none⟩ = some (.slice KA o.ks.length kc) := hx1.cell_eq rfl
      have hL1 := HL.out.keep hk1 (by simp)
      have hK1 : Keep [] w W1 := HK.out.nil hk1
      have HL1 := Lib.hid hL1
      have HK1 := Lib.hid hK1
      have HX1 := Lib.hid hx1
      have HTB := Lib.hid htb
      have HKW := Lib.hid hk1
      have hB1 : w.heap.size ≤ W1.heap.size := hK1.size
      have hrel := HREL.out
      unfold liftF at hrel
      rw [HO1.out] at hrel
      simp only at hrel
      clear hx1 hk1 hL1 hK1 htb x1 HREL
      by_cases hk_1 : o.k = 1
      · have e2 : ((o.k : Nat) : Int) = 1 := by omega
        rw [e2] at c2
        rw [if_pos hk_1] at hrel
        have HREL := Lib.hid hrel
        clear hrel hk_1 e2
        go_wp2_with (at_builtin; refine wpList_append_l rfl _ _ rfl rfl HL1.out _ rfl (textP o.tx) (.slice none 0 0) rfl (fun _ => False) (fun x hx => hx.elim) rfl (LiesC.nil _ _ _) (by omega) hB1 ?_; intro A' cap' w' ho' hk'; have HO2 := Lib.hid ho'; have HK2 := Lib.hid hk'; clear ho' hk')
        go_roundw
        case rel => exact ⟨j + 1, F2, acc ++ [textP o.tx], by omega, by go_num, by omega, by simpa using HO2.out, by simp; omega, HK1.out.trans HK2.out (fun x hx => .inr (HL1.out.lt x hx).1), HREL.out⟩
        case measure => simp [intOf]; omega
      rw [if_neg hk_1] at hrel
      by_cases hk_2 : o.k = 2
      · have e2 : ((o.k : Nat) : Int) = 2 := by omega
        rw [e2] at c2
        rw [if_pos hk_2] at hrel
        have HREL := Lib.hid hrel
        clear hrel hk_1 hk_2 e2
        go_wp2_with (at_builtin; refine wpList_append_l rfl _ _ rfl rfl HL1.out _ rfl hashP (.slice none 0 0) rfl (fun _ => False) (fun x hx => hx.elim) rfl (LiesC.nil _ _ _) (by omega) hB1 ?_; intro A' cap' w' ho' hk'; have HO2 := Lib.hid ho'; have HK2 := Lib.hid hk'; clear ho' hk')
        go_roundw
        case rel => exact ⟨j + 1, F2, acc ++ [hashP], by omega, by go_num, by omega, by simpa using HO2.out, by simp; omega, HK1.out.trans HK2.out (fun x hx => .inr (HL1.out.lt x hx).1), HREL.out⟩
        case measure => simp [intOf]; omega
      rw [if_neg hk_2] at hrel
      by_cases hk_3 : o.k = 3
      · have e2 : ((o.k : Nat) : Int) = 3 := by omega
        rw [e2] at c2
        rw [if_pos hk_3] at hrel
        have HREL := Lib.hid hrel
        clear hrel hk_1 hk_2 hk_3 e2
        go_wp2_with (at_builtin; refine wpList_append_l rfl _ _ rfl rfl HL1.out _ rfl (⟨3, ⟨#[]⟩, o.nm, o.ty, o.st, 0, []⟩ : PT) (.slice none 0 0) rfl (fun _ => False) (fun x hx => hx.elim) rfl (LiesC.nil _ _ _) (by omega) hB1 ?_; intro A' cap' w' ho' hk'; have HO2 := Lib.hid ho'; have HK2 := Lib.hid hk'; clear ho' hk')
        go_roundw
        case rel => exact ⟨j + 1, F2, acc ++ [⟨3, ⟨#[]⟩, o.nm, o.ty, o.st, 0, []⟩], by omega, by go_num, by omega, by simpa using HO2.out, by simp; omega, HK1.out.trans HK2.out (fun x hx => .inr (HL1.out.lt x hx).1), HREL.out⟩
        case measure => simp [intOf]; omega
      rw [if_neg hk_3] at hrel
      by_cases hk_7 : o.k = 7 ∨ o.k = 0
      · rw [if_pos hk_7] at hrel
        subst hrel
        rcases hk_7 with hk_7 | hk_7
        · have e2 : ((o.k : Nat) : Int) = 7 := by omega
          rw [e2] at c2
          clear e2 hk_1 hk_2 hk_3 hk_7
          go_wp2
          go_ret3
          exact ⟨HK1.out, _, rfl, HL1.out⟩
        · have e2 : ((o.k : Nat) : Int) = 0 := by omega
          rw [e2] at c2
          clear e2 hk_1 hk_2 hk_3 hk_7
          go_wp2
          go_ret3
          exact ⟨HK1.out, _, rfl, HL1.out⟩
      rw [if_neg hk_7] at hrel
      have d1 : ((o.k : Int) == 1) = false := by simp; omega
      have d2 : ((o.k : Int) == 2) = false := by simp; omega
      have d3 : ((o.k : Int) == 3) = false := by simp; omega
      have d7 : ((o.k : Int) == 7) = false := by simp; omega
      have d0 : ((o.k : Int) == 0) = false := by simp; omega
      have h456 : Hid (o.k = 4 ∨ o.k = 5 ∨ o.k = 6) := by unfold Hid; omega
      clear hk_1 hk_2 hk_3 hk_7
      go_upto_region 5 with fail
      have hx2 : Blk (W1.alloc (.cells #[.int .i64 (o.k : Int), .string ⟨#[]⟩, .string o.nm, .string ⟨#[]⟩, .string ⟨#[]⟩, .int .i64 (o.off : Int), .slice none 0 0] 68)) W1.heap.size 68 #[.int .i64 (o.k : Int), .string ⟨#[]⟩, .string o.nm, .string ⟨#[]⟩, .string ⟨#[]⟩, .int .i64 (o.off : Int), .slice none 0 0] := Blk.new _ _ _
      have hk2 : Keep [] W1 (W1.alloc (.cells #[.int .i64 (o.k : Int), .string ⟨#[]⟩, .string o.nm, .string ⟨#[]⟩, .string ⟨#[]⟩, .int .i64 (o.off : Int), .slice none 0 0] 68)) := (Keep.refl _ _).alloc _
      go_cut [11] (fun pp W => pp = .pointer (some ⟨W1.heap.size, 0, none⟩) ∧ W = W1.alloc (.cells #[.int .i64 (o.k : Int), .string ⟨#[]⟩, .string o.nm, .string ⟨#[]⟩, .string ⟨#[]⟩, .int .i64 (o.off : Int), .slice none 0 0] 68))
      case first =>
        rcases h456.out with h4 | h4 | h4
        · have H4 := Lib.hid h4
          rw [h4] at c2
          clear d1 d2 d3 d7 d0 h4
          go_wp2
          go_meet
          exact ⟨rfl, by rw [H4.out]; rfl⟩
        · have H4 := Lib.hid h4
          rw [h4] at c2
          clear d1 d2 d3 d7 d0 h4
          go_wp2
          go_meet
          exact ⟨rfl, by rw [H4.out]; rfl⟩
        · have H4 := Lib.hid h4
          rw [h4] at c2
          clear d1 d2 d3 d7 d0 h4
          go_wp2
          go_meet
          exact ⟨rfl, by rw [H4.out]; rfl⟩
      case rest =>
        obtain ⟨rfl, rfl⟩ := hcut
        generalize W1.alloc (.cells #[.int .i64 (o.k : Int), .string ⟨#[]⟩, .string o.nm, .string ⟨#[]⟩, .string ⟨#[]⟩, .int .i64 (o.off : Int), .slice none 0 0] 68) = W2 at *
        have d8 : W2.cell? ⟨tb, 8, none⟩ = some (.slice KA o.ks.length kc) := (HX1.out.keep hk2 (by simp)).cell_eq rfl
        clear c2 c3 c4 c5 c6 c7 c8 d1 d2 d3 d7 d0
        cases nest with
        | zero =>
          rw [if_pos rfl] at hrel
          subst hrel
          go_wp2
          go_ret3
          exact ⟨HK1.out.nil hk2, rfl⟩
        | succ m =>
          rw [if_neg (by omega)] at hrel
          simp only [Nat.add_sub_cancel] at hrel
          obtain ⟨TC, hTC⟩ : ∃ TC, casL ops (fun jj => liftF ops F2 m jj []) o.ks j [] = TC := ⟨_, rfl⟩
          rw [hTC] at hrel
          have HREL := Lib.hid hrel
          have HTC := Lib.hid hTC
          have HX2 := Lib.hid hx2
          have HK2 := Lib.hid hk2
          obtain ⟨pb, hpb⟩ : ∃ pb, W1.heap.size = pb := ⟨_, rfl⟩
          rw [hpb] at HX2 ⊢
          have HPB := Lib.hid hpb
          have hz2 := hx2.lt
          rw [hpb] at hz2
          have hBp : w.heap.size ≤ pb := by omega
          have HIHM : Hid (LiC m) := HIH.out m rfl
          obtain ⟨z, hz⟩ : ∃ z : Int, ((m + 1 : Nat) : Int) = z := ⟨_, rfl⟩
          rw [hz]
          have hz0 : (z == 0) = false := by simp; omega
          have hz1 : IntKind.i64.wrap (z - 1) = (m : Int) := by rw [IntKind.wrap_i64]; omega
          have hzz2 : wrap64 (z - 1) = (m : Int) := by unfold wrap64; omega
          have HZ := Lib.hid hz
          clear hz
          clear hrel hTC hx2 hk2 hpb HIH HTT
          have HC0 : Hid (∀ W, Keep [] w W → W.cell? ⟨xb, 1, none⟩ = some (.slice (some ⟨b, 0, none⟩) ops.length oc)) := fun W hW => (HX.out.keep hW (by simp)).cell_eq rfl
          go_wp2
          go_loopw [1, 47] (fun iv ix wr2 => ∃ (t j2 : Nat) (cs : List CT) (cv : Value), t ≤ o.ks.length ∧ ix = .int .i64 t ∧ iv = .int .i64 j2 ∧ j ≤ j2 ∧ j2 < ops.length ∧ cs.length = t ∧ Blk wr2 pb 68 #[.int .i64 (o.k : Int), .string ⟨#[]⟩, .string o.nm, .string ⟨#[]⟩, .string ⟨#[]⟩, .int .i64 (o.off : Int), cv] ∧ OwnC (m + 1) wr2 W2.heap.size cv cs ∧ Keep [pb] W2 wr2 ∧ casL ops (fun jj => liftF ops F2 m jj []) (o.ks.drop t) j2 cs = TC) (fun _ ix _ => o.ks.length - (intOf ix).toNat)
          case atStart => exact ⟨0, j, [], .slice none 0 0, Nat.zero_le _, rfl, rfl, Nat.le_refl _, hlt, rfl, HX2.out, OwnC.nil _ _ _, Keep.refl _ _, HTC.out⟩
          case round =>
            obtain ⟨t, j2, cs, cv, ht, rfl, rfl, hj2, hj2l, hcl, hPB, hOC, hK3, hcas⟩ := hrel
            have hcl' : cs.length ≤ 1000000000 := by omega
            have HCL := Lib.hid hcl
            clear hcl
            have hKA : Keep [] w wr := (HK1.out.nil HK2.out).trans hK3 (fun x hx => .inr (by simp at hx; omega))
            have HKA2 := Lib.hid hKA
            have HPBB := Lib.hid hPB
            have HOC := Lib.hid hOC
            have HK3 := Lib.hid hK3
            obtain ⟨CA, cc, rfl⟩ := hOC.form
            have hz3 := hK3.size
            by_cases htl : t < o.ks.length
            · obtain ⟨s, hs⟩ : ∃ s, o.ks[t]? = some s := ⟨_, List.getElem?_eq_getElem htl⟩
              obtain ⟨kb, kc', hke, hk0⟩ := HKS.out.at hs
              have hkb := (HKS.out.lt kb (by rw [hke]; simp [Value.ownBlock])).2
              injection hke with hke1 _ hke3
              subst hke1; subst hke3
              have k0 : wr.cell? ⟨kb, t, none⟩ = some (.string s) := (hKA.cell (p := ⟨kb, t, none⟩) hkb (by simp)).trans hk0
              have HCALL := Lib.hid (HIHM.out ops P (j2 + 1) F2 wr B xb (Lst.nil ⟨pv, _, mb, HX.out, HP.out, HO.out, HM.out⟩ hKA) (by omega) hol HKA.out (by omega))
              obtain ⟨R, hR⟩ : ∃ R, liftF ops F2 m (j2 + 1) [] = R := ⟨_, rfl⟩
              unfold LiftO at HCALL
              rw [hR] at HCALL
              have hdr := drop_some hs
              rw [hdr] at hcas
              unfold casL at hcas
              rw [hR] at hcas
              clear hPB hOC hK3 hKA hk0 hs hdr
              cases R with
              | none =>
                simp only at hcas
                have hrel := HREL.out
                rw [← hcas] at hrel
                simp only at hrel
                subst hrel
                go_wp2_with (go_at_call 53; refine HCALL.out.mono ?_; rintro e w5 ⟨hk5, rfl⟩; have HK5 := Lib.hid hk5; clear hk5)
                go_ret3
                exact ⟨HKA2.out.nil HK5.out, rfl⟩
              | some lr =>
                obtain ⟨l', e'⟩ := lr
                have hge := liftF_ge F2 m (j2 + 1) [] l' e' hR
                obtain ⟨o', ho'⟩ : ∃ o', ops[e']? = some o' := ⟨_, List.getElem?_eq_getElem hge.2⟩
                obtain ⟨b', oc', u', he', -, hbs', hAt', -, -⟩ := HO.out.at ho'
                injection he' with he1' _ he3'
                injection he1' with he1'
                injection he1' with he1'
                subst he1'
                have HC5 : Hid (∀ W, Keep [] w W → W.cell? ⟨b, e' * 10 + 2, none⟩ = some (.int .i64 (o'.k : Int))) := fun W hW => (hAt'.keep hW hbs' (by simp)) 2 _ rfl
                simp only [ho', Option.map_some, Option.some.injEq] at hcas
                clear hAt' ho' hR he3'
                by_cases h7 : o'.k = 7
                · rw [if_pos h7] at hcas
                  rw [h7] at HC5
                  have HCAS := Lib.hid hcas
                  clear hcas h7
                  go_wp2_with (first
                    | (go_at_call 53; refine HCALL.out.mono ?_; rintro e w5 ⟨hk5, u5, rfl, ho5⟩; have y1 := HC0.out w5 (HKA2.out.nil hk5); have y2 := HC5.out w5 (HKA2.out.nil hk5); obtain ⟨A5, c5, rfl⟩ := ho5.form; have hpb5 := HPBB.out.keep hk5 (by simp); have y3 : w5.cell? ⟨pb, 6, none⟩ = some (.slice CA cs.length cc) := hpb5.cell_eq rfl; have hoc5 := HOC.out.keep hk5 (by simp); have hz5 := hk5.size; have HPB5 := Lib.hid hpb5; have HOC5 := Lib.hid hoc5; have HO5 := Lib.hid ho5; have HK5 := Lib.hid hk5; clear hk5 ho5 hpb5 hoc5)
                    | (at_builtin; refine wpList_append_k rfl _ _ rfl rfl HOC5.out _ rfl (s, l') (.slice A5 l'.length c5) rfl (fun x => wr.heap.size ≤ x ∧ x < w5.heap.size) (fun x hx => ⟨by omega, hx.2, fun hc => by have := (HOC.out.lt x hc).2; omega⟩) rfl HO5.out.lies hcl' (by omega) ?_; intro A6 cap6 w6 ho6 hk6; have hpb6 := HPB5.out.keep hk6 (fun hc => by have := (HOC.out.lt pb hc).1; omega); have y4 : w6.cell? ⟨pb, 6, none⟩ = some (.slice CA cs.length cc) := hpb6.cell_eq rfl; have y5 := hpb6.frozen 6; have HPB6 := Lib.hid hpb6; have HO6 := Lib.hid ho6; have HK6 := Lib.hid hk6; clear hpb6 ho6 hk6))
                  go_roundw
                  case rel => exact ⟨t + 1, e', cs ++ [(s, l')], .slice A6 (cs.length + 1) cap6, by omega, by go_num, rfl, by omega, hge.2, by simp [HCL.out], HPB6.out.set_ 6 _, HO6.out.keep (Keep.setCell (Keep.refl [pb] _) (.inl (by simp)) _) (fun x hx => by simp at hx; subst hx; exact .inr hz2), ((HK3.out.nil HK5.out).trans HK6.out (fun x hx => .inr (HOC.out.lt x hx).1)).setCell (.inl (by simp)) _, HCAS.out⟩
                  case measure => simp [intOf]; omega
                · rw [if_neg h7] at hcas
                  have hb7 : ((o'.k : Int) != 7) = true := by simp; omega
                  have hrel := HREL.out
                  rw [← hcas] at hrel
                  simp only at hrel
                  subst hrel
                  clear hcas h7
                  go_wp2_with (go_at_call 53; refine HCALL.out.mono ?_; rintro e w5 ⟨hk5, u5, rfl, ho5⟩; have y1 := HC0.out w5 (HKA2.out.nil hk5); have y2 := HC5.out w5 (HKA2.out.nil hk5); obtain ⟨A5, c5, rfl⟩ := ho5.form; have HO5 := Lib.hid ho5; have HK5 := Lib.hid hk5; clear hk5 ho5)
                  go_ret3
                  exact ⟨HKA2.out.nil HK5.out, rfl⟩
            · obtain rfl : t = o.ks.length := by omega
              rw [List.drop_length] at hcas
              simp only [casL] at hcas
              have hrel := HREL.out
              rw [← hcas] at hrel
              simp only at hrel
              have HREL2 := Lib.hid hrel
              have p0 : wr.cell? ⟨pb, 0, none⟩ = some (.int .i64 (o.k : Int)) := hPB.cell_eq rfl
              have p1 : wr.cell? ⟨pb, 1, none⟩ = some (.string ⟨#[]⟩) := hPB.cell_eq rfl
              have p2 : wr.cell? ⟨pb, 2, none⟩ = some (.string o.nm) := hPB.cell_eq rfl
              have p3 : wr.cell? ⟨pb, 3, none⟩ = some (.string ⟨#[]⟩) := hPB.cell_eq rfl
              have p4 : wr.cell? ⟨pb, 4, none⟩ = some (.string ⟨#[]⟩) := hPB.cell_eq rfl
              have p5 : wr.cell? ⟨pb, 5, none⟩ = some (.int .i64 (o.off : Int)) := hPB.cell_eq rfl
              have p6 : wr.cell? ⟨pb, 6, none⟩ = some (.slice CA cs.length cc) := hPB.cell_eq rfl
              have hk13 : Keep [pb] W1 wr := (HK2.out.mono (by simp)).same hK3
              have hpb1 := HPB.out
              have hL3 := HL1.out.keep hk13 (fun x hx => by simp at hx; left; omega)
              have HL3 := Lib.hid hL3
              have hzw : W2.heap.size ≤ wr.heap.size := hK3.size
              have hbw : w.heap.size ≤ wr.heap.size := by omega
              clear hrel hcas hL3 hk13 hPB hOC hK3 hKA
              go_wp2_with (at_builtin; refine wpList_append_l rfl _ _ rfl rfl HL3.out _ rfl (⟨o.k, ⟨#[]⟩, o.nm, ⟨#[]⟩, ⟨#[]⟩, o.off, cs⟩ : PT) (.slice CA cs.length cc) rfl (fun x => W2.heap.size ≤ x ∧ x < wr.heap.size) (fun x hx => ⟨by omega, hx.2, fun hc => by have := (HL1.out.lt x hc).2; omega⟩) rfl HOC.out.lies (by omega) hbw ?_; intro A' cap' w' ho' hk'; have HO2 := Lib.hid ho'; have HKK := Lib.hid hk'; clear ho' hk')
              have hz := HZ.out
              subst hz
              go_roundw
              case rel => exact ⟨j2 + 1, F2, acc ++ [⟨o.k, ⟨#[]⟩, o.nm, ⟨#[]⟩, ⟨#[]⟩, o.off, cs⟩], by omega, by go_num, by omega, by simpa using HO2.out, by simp; omega, HKA2.out.trans HKK.out (fun x hx => .inr (HL1.out.lt x hx).1), HREL2.out⟩
              case measure => simp [intOf]; omega
    · have ho : ops[j]? = none := List.getElem?_eq_none (by omega)
      have hrel := HREL.out
      unfold liftF at hrel
      rw [ho] at hrel
      simp only at hrel
      subst hrel
      have hlt' : ¬ (j : Int) < (ops.length : Int) := by omega
      clear ho
      go_wp2
      go_ret3
      exact ⟨HK.out, rfl⟩
/-- lift, at every depth. -/
theorem lift_all : ∀ n, n ≤ 1000 → LiC n
  | 0, h => lift_step 0 h fun m hm => by omega
  | n + 1, h => lift_step (n + 1) h fun m hm => by
    obtain rfl : m = n := by omega
    exact lift_all m (by omega)
end Go.Proofs.YtmfoiceofhcicaaGreatDoor
