/- Walks: the law NumPatBelow. -/
import Derived.Test.YtkkglaglnfebjaaDoorWBelow
namespace Go.Proofs.YtkkglaglnfebjaaDoor
open Go.RowKit Go.IntWalk

/-- A slice's block, from B on, is n pieces long at least. -/
def BlkO (B : Nat) (w : World) (A : Option Addr) (n : Nat) : Prop := ∀ a, A = some a → ∃ g cs, a = ⟨g, 0, none⟩ ∧ B ≤ g ∧ Blk w g 42 cs ∧ n * 3 ≤ cs.size
theorem BlkO.set {B : Nat} {w : World} {A : Option Addr} {n : Nat} (h : BlkO B w A n) (g i : Nat) (v : Value) : BlkO B (w.setCell ⟨g, i, none⟩ v) A n := by
  intro a ha
  obtain ⟨g', cs, rfl, hB, hb, hs⟩ := h a ha
  by_cases hg : g' = g
  · subst hg
    exact ⟨g', _, rfl, hB, hb.set_ i v, by simpa using hs⟩
  · exact ⟨g', cs, rfl, hB, hb.far hg v, hs⟩
theorem OwnA.blkO {w : World} {B : Nat} {v : Value} {l : List Aff} (h : OwnA w B v l) : ∃ A cap, v = .slice A l.length cap ∧ l.length ≤ cap ∧ cap ≤ maxLen ∧ (A = none → l.length = 0) ∧ BlkO B w A l.length := by
  rcases h.2 with ⟨h1, h2⟩ | ⟨g, cap, cur, h1, hB, hg, hn, hc, hs, _⟩
  · exact ⟨none, 0, by rw [h1, h2], by omega, by simp [maxLen], fun _ => h2, fun a ha => by cases ha⟩
  · exact ⟨_, cap, h1, hn, hc, (fun h => by cases h), fun a ha => ⟨g, cur, (Option.some.inj ha).symm, hB, hg, by rw [hs]; exact Nat.mul_le_mul_right _ hn⟩⟩

theorem below_end {w w9 W : World} {h : Nat} {u1 u2 u3 u4 v1 v2 v3 v4 : Value} {p : PatD} (hR : RdP w9 u1 u2 u3 u4 p) (hB : PatAt w9 h v1 v2 v3 v4 p) (hP : RdP w9 v1 v2 v3 v4 p) (hN : NilP u1 u2 u3 u4) (hK : Keep [] w w9) (hk : Keep [] w9 W) :
    RdP W u1 u2 u3 u4 p ∧ NilP u1 u2 u3 u4 ∧ PatAt W h v1 v2 v3 v4 p ∧ RdP W v1 v2 v3 v4 p ∧ Keep [] w W :=
  ⟨hR.keep_nil hk, hN, hB.keep hk (by simp), hP.keep_nil hk, hK.nil hk⟩

set_option maxRecDepth 100000 in
set_option maxHeartbeats 4000000 in
theorem law_below {B : Nat} (w : World) (hE : Env B w) (A1 A2 A3 A4 : Option Addr) (n1 n2 n3 n4 k1 k2 k3 k4 : Nat) (p : PatD) (hp : RdP w (.slice A1 n1 k1) (.slice A2 n2 k2) (.slice A3 n3 k3) (.slice A4 n4 k4) p) (hn : NilP (.slice A1 n1 k1) (.slice A2 n2 k2) (.slice A3 n3 k3) (.slice A4 n4 k4)) (hsz : TxtSz p) :
    Calls Tryd.prog 5 #[patV (.slice A1 n1 k1) (.slice A2 n2 k2) (.slice A3 n3 k3) (.slice A4 n4 k4) p] w fun e w' => e = .returned (.bool true) ∧ Keep [] w w' := by
  have HE := Lib.hid hE
  have HP := Lib.hid hp
  have HN := Lib.hid (cut_nil hn)
  have HSz := Lib.hid hsz.cut
  have HB0 := Lib.hid (PatAt.new w (.slice A1 n1 k1) (.slice A2 n2 k2) (.slice A3 n3 k3) (.slice A4 n4 k4) p)
  have HWk := Lib.hid (wakes_any (w.alloc (boxP (.slice A1 n1 k1) (.slice A2 n2 k2) (.slice A3 n3 k3) (.slice A4 n4 k4) p)) (hE.below ((Below.refl B w).alloc hE.le _)))
  clear hE hp hsz hn
  unfold boxP at HB0 HWk
  simp only [patV]
  go_enter Tryd.func5, Tryd.ntmps5
  go_upto_region 3 with (go_at_call 10; refine HWk.out.mono ?_; rintro e w1 ⟨rfl, hk1⟩)
  have HK1 := Lib.hid (((Keep.refl [] w).alloc _).nil hk1)
  have HB1 := Lib.hid (HB0.out.keep hk1 (by simp))
  obtain ⟨p0, p1, p2, p3, p4, p5, p6, p7, p8, p9, pf, pz⟩ := HB1.out.all
  clear hk1 HB0 HWk HE
  have hC := Lib.hid (cut_any w1 A1 A2 A3 A4 n1 n2 n3 n4 k1 k2 k3 k4 p (HP.out.keep_nil HK1.out))
  go_cut [] (fun wx => PatAt wx w.heap.size (.slice A1 (min n1 30) k1) (.slice A2 (min n2 30) k2) (.slice A3 (min n3 30) k3) (.slice A4 (min n4 30) k4) (cutD p) ∧ Keep [] w wx)
  case first =>
    simp only [patV] at hC
    go_wp2_with (go_at_call 15; refine hC.out.mono ?_; rintro e w2 ⟨rfl, hk2⟩; have HB2 := Lib.hid (HB1.out.keep hk2 (by simp)); have HK2 := Lib.hid (HK1.out.nil hk2); obtain ⟨q0, q1, q2, q3, q4, q5, q6, q7, q8, q9, qf, qz⟩ := HB2.out.all; clear hk2)
    go_meet
    refine ⟨HB2.out.store _ _ _ _ _, ?_⟩
    repeat (refine Keep.setCell ?_ (.inr (Nat.le_refl _)) _)
    exact HK2.out
  case rest =>
    obtain ⟨hB2, hK2⟩ := hcut
    have HB2 := Lib.hid hB2
    have HK2 := Lib.hid hK2
    have HP2 := Lib.hid (HP.out.keep_nil hK2).cut
    clear hB2 hK2 hC HB1 HK1 HP p0 p1 p2 p3 p4 p5 p6 p7 p8 p9 pf pz
    generalize cutD p = p at *
    generalize min n1 30 = n1 at *
    generalize min n2 30 = n2 at *
    generalize min n3 30 = n3 at *
    generalize min n4 30 = n4 at *
    obtain ⟨p0, p1, p2, p3, p4, p5, p6, p7, p8, p9, pf, pz⟩ := HB2.out.all
    have HCp := Lib.hid (copied_any wc _ _ _ _ p HP2.out HN.out HSz.out)
    simp only [patV] at HCp
    go_wp2_with fail
    refine HCp.out.mono ?_
    rintro e w3 ⟨u1, u2, u3, u4, rfl, hR3, hN3, hK3⟩
    obtain ⟨U1, j1, rfl, _, _, _⟩ := hR3.pre
    obtain ⟨U2, j2, rfl, _, _, _⟩ := hR3.suf
    obtain ⟨U3, j3, rfl, _, _, _⟩ := hR3.npre
    obtain ⟨U4, j4, rfl, _, _, _⟩ := hR3.nsuf
    have HBl := Lib.hid (below_any w3 _ _ _ _ _ _ _ _ _ _ _ _ p hR3 hN3 HSz.out)
    have HK3 := Lib.hid (HK2.out.nil hK3)
    have HB3 := Lib.hid (HB2.out.keep hK3 (by simp))
    have HP3 := Lib.hid (HP2.out.keep_nil hK3)
    have HRt : ∀ W, Keep [] w3 W → Hid (Calls Tryd.prog 19 #[patV (.slice A1 n1 k1) (.slice A2 n2 k2) (.slice A3 n3 k3) (.slice A4 n4 k4) p] W fun e w' => e = .returned (.bool (rightB p)) ∧ Keep [] W w') := fun W hk => rright_any W _ _ _ _ p (HP3.out.keep_nil hk) HSz.out
    clear hR3 hN3 hK3 p0 p1 p2 p3 p4 p5 p6 p7 p8 p9 pf pz HCp HB2 HP2
    simp only [patV] at HBl HRt
    cases hr : rightB p
    · rw [hr] at HBl HRt
      change Hid (Calls _ _ _ _ fun e w' => e = .returned (.tuple #[.slice none 0 0, .slice none 0 0, .int .i64 2]) ∧ Keep [] _ w') at HBl
      clear hr
      go_wp2_with fail
      refine HBl.out.mono ?_
      rintro e w4 ⟨rfl, hk4⟩
      have HR4 := HRt w4 hk4
      have HK4 := Lib.hid (HK3.out.nil hk4)
      have HB4 := Lib.hid (HB3.out.keep hk4 (by simp))
      clear hk4 HRt HBl
      obtain ⟨p0, p1, p2, p3, p4, p5, p6, p7, p8, p9, pf, pz⟩ := HB4.out.all
      go_wp2_with fail
      refine HR4.out.mono ?_
      rintro e w5 ⟨rfl, hk5⟩
      have HK5 := Lib.hid (HK4.out.nil hk5)
      clear hk5 HR4 p0 p1 p2 p3 p4 p5 p6 p7 p8 p9 pf pz
      go_wp2
      go_ret
      exact ⟨rfl, HK5.out⟩
    rw [hr] at HBl HRt
    change Hid (Calls _ _ _ _ (BPost _ _ _)) at HBl
    have HRq := Lib.hid hr
    clear hr
    go_wp2_with fail
    refine HBl.out.mono ?_
    rintro e w4 ⟨va, vb, rfl, hva, hvb, _, hk4⟩
    have HR4 := HRt w4 hk4
    have HK4 := Lib.hid (HK3.out.nil hk4)
    have HB4 := Lib.hid (HB3.out.keep hk4 (by simp))
    have HP4 := Lib.hid (HP3.out.keep_nil hk4)
    have HVa := Lib.hid hva.reads
    have HVb := Lib.hid hvb.reads
    clear hk4 HRt HBl hva hvb HB3 HP3
    obtain ⟨p0, p1, p2, p3, p4, p5, p6, p7, p8, p9, pf, pz⟩ := HB4.out.all
    go_wp2_with fail
    refine HR4.out.mono ?_
    rintro e w5 ⟨rfl, hk5⟩
    have HK5 := Lib.hid (HK4.out.nil hk5)
    have HB5 := Lib.hid (HB4.out.keep hk5 (by simp))
    have HP5 := Lib.hid (HP4.out.keep_nil hk5)
    have HVa5 := Lib.hid (HVa.out.keep_nil hk5)
    have HVb5 := Lib.hid (HVb.out.keep_nil hk5)
    clear hk5 HR4 p0 p1 p2 p3 p4 p5 p6 p7 p8 p9 pf pz HB4 HP4 HVa HVb
    obtain ⟨l1, l2, neg, l3, l4, mi, mf, xf, g, g2⟩ := p
    have hl1 := HSz.out.len.1
    simp only [aheadL, behindL] at HVa5 HVb5
    simp only at *
    cases neg
    rotate_left
    obtain ⟨p0, p1, p2, p3, p4, p5, p6, p7, p8, p9, pf, pz⟩ := HB5.out.all
    have HVa6 : Hid (RdA w5 va l3) := HVa5.out
    have HVb6 : Hid (RdA w5 vb l4) := HVb5.out
    clear HVa5 HVb5
    go_upto_region 7 with fail
    go_quiet (fail)
    have HKb : Hid (Keep [] w5 (w5.drewN nq)) := (Keep.refl [] w5).drewN nq
    generalize w5.drewN nq = w6 at *
    have HF1 : ∀ W, Keep [] w6 W → Hid (Calls Tryd.prog 23 #[va, .slice A3 n3 k3] W fun e w' => e = .returned (.bool true) ∧ Keep [] W w') := fun W hk => affixes_eq W _ _ _ (HVa6.out.keep_nil (HKb.out.nil hk)) (HP5.out.npre.keep_nil (HKb.out.nil hk))
    have HF2 : ∀ W, Keep [] w6 W → Hid (Calls Tryd.prog 23 #[vb, .slice A4 n4 k4] W fun e w' => e = .returned (.bool true) ∧ Keep [] W w') := fun W hk => affixes_eq W _ _ _ (HVb6.out.keep_nil (HKb.out.nil hk)) (HP5.out.nsuf.keep_nil (HKb.out.nil hk))
    have HK6 := Lib.hid (HK5.out.nil HKb.out)
    have HB6 := Lib.hid (HB5.out.keep HKb.out (by simp))
    have HP6 := Lib.hid (HP5.out.keep_nil HKb.out)
    have pn : w6.cell? ⟨w.heap.size, 2, none⟩ = some (.bool true) := HB6.out.all.2.2.1
    generalize (⟨l1, l2, true, l3, l4, mi, mf, xf, g, g2⟩ : PatD) = q at HB6 HP6 HSz HRq
    clear HVa6 HVb6 HKb p0 p1 p2 p3 p4 p5 p6 p7 p8 p9 pf pz HB5 HP5 HK5
    rotate_left
    obtain ⟨p0, p1, p2, p3, p4, p5, p6, p7, p8, p9, pf, pz⟩ := HB5.out.all
    have HVa6 : Hid (RdA w5 va (minus :: l1)) := HVa5.out
    have HVb6 : Hid (RdA w5 vb l2) := HVb5.out
    clear HVa5 HVb5
    go_upto_region 7 with fail
    go_quiet (fail)
    go_upto_region 9 with fail
    refine wp_region_U (fun W => W.cell? ⟨w.heap.size, 0, none⟩ = some (.slice A1 n1 k1) ∧ W.cell? ⟨w.heap.size, 1, none⟩ = some (.slice A2 n2 k2)) 8 (by kernel_rfl) ?_
    have s0 : Hid ((w5.drewN nq).drew.cell? ⟨w.heap.size, 0, none⟩ = some (.slice A1 n1 k1) ∧ (w5.drewN nq).drew.cell? ⟨w.heap.size, 1, none⟩ = some (.slice A2 n2 k2)) := ⟨p0, p1⟩
    refine anyU_take (i := 0) (v := ?v1) [] rfl (by kernel_rfl) (by kernel_rfl) (by kernel_rfl) (fun _ _ _ h => h) (by kernel_rfl) (by kernel_rfl) s0.out (Or.inl ⟨by rfl, ?hy1⟩) ?rest1
    case hy1 => (intro W hW; obtain ⟨hW1, hW2⟩ := hW; go_simp <;> with_reducible rfl)
    simp only [Act.put, List.getElem_toArray, List.getElem_cons_zero, List.setIfInBounds_toArray, List.set_cons_zero, List.set_cons_succ]
    refine anyU_take (i := 2) (v := ?v2) [] rfl (by kernel_rfl) (by kernel_rfl) (by kernel_rfl) (fun _ _ _ h => h) (by kernel_rfl) (by kernel_rfl) s0.out (Or.inl ⟨by rfl, ?hy2⟩) ?rest2
    case hy2 => (intro W hW; obtain ⟨hW1, hW2⟩ := hW; go_simp <;> with_reducible rfl)
    simp only [Act.put, List.getElem_toArray, List.getElem_cons_succ, List.getElem_cons_zero, List.setIfInBounds_toArray, List.set_cons_zero, List.set_cons_succ]
    refine anyU_take (i := 3) (v := ?v3) [] rfl (by kernel_rfl) (by kernel_rfl) (by kernel_rfl) (fun _ _ _ h => h) (by kernel_rfl) (by kernel_rfl) s0.out (Or.inl ⟨by rfl, ?hy3⟩) ?rest3
    case hy3 => (intro W hW; obtain ⟨hW1, hW2⟩ := hW; go_simp <;> with_reducible rfl)
    simp only [Act.put, List.getElem_toArray, List.getElem_cons_succ, List.getElem_cons_zero, List.setIfInBounds_toArray, List.set_cons_zero, List.set_cons_succ]
    refine anyU_take (i := 5) (v := ?v4) [] rfl (by kernel_rfl) (by kernel_rfl) (by kernel_rfl) (fun _ _ _ h => h) (by kernel_rfl) (by kernel_rfl) s0.out (Or.inl ⟨by rfl, ?hy4⟩) ?rest4
    case hy4 => (intro W hW; obtain ⟨hW1, hW2⟩ := hW; go_simp <;> with_reducible rfl)
    simp only [Act.put, List.getElem_toArray, List.getElem_cons_succ, List.getElem_cons_zero, List.setIfInBounds_toArray, List.set_cons_zero, List.set_cons_succ]
    refine anyU_take (i := 6) (v := ?v5) [] rfl (by kernel_rfl) (by kernel_rfl) (by kernel_rfl) (fun _ _ _ h => h) (by kernel_rfl) (by kernel_rfl) s0.out (Or.inl ⟨by rfl, ?hy5⟩) ?rest5
    case hy5 => (intro W hW; obtain ⟨hW1, hW2⟩ := hW; go_simp <;> with_reducible rfl)
    simp only [Act.put, List.getElem_toArray, List.getElem_cons_succ, List.getElem_cons_zero, List.setIfInBounds_toArray, List.set_cons_zero, List.set_cons_succ]
    refine anyU_one (i := 1) (by kernel_rfl) rfl rfl ?_
    intro K hK; simp only [List.getElem_toArray, List.getElem_cons_succ, List.getElem_cons_zero]
    go_simp
    have HPa := Lib.hid ((HB5.out.drewN (nq + 1)).alloc (.cells #[.int .i64 3, .string ⟨#[]⟩, .int .i64 0] 42))
    have HKa : Hid (Keep [] w5 ((w5.drewN (nq + 1)).alloc (.cells #[.int .i64 3, .string ⟨#[]⟩, .int .i64 0] 42))) := ((Keep.refl [] w5).drewN (nq + 1)).alloc _
    have s1 : Hid (_ ∧ _) := And.intro HPa.out.all.1 HPa.out.all.2.1
    refine hK.out _ _ (fun _ => s1.out) ?_
    clear hK
    refine anyU_one (i := 4) (by kernel_rfl) rfl rfl ?_
    intro K hK; simp only [List.getElem_toArray, List.getElem_cons_succ, List.getElem_cons_zero]
    refine wp_append_some (.tmp 45) (.tmp 47) rfl (w0 := w5) (B := w5.heap.size) (v := .slice (some ⟨_, 0, none⟩) 1 1) (l := [minus]) (vx := .slice A1 n1 k1) (m := l1) (r := minus :: l1) rfl (minus_own (W := w5.drewN (nq + 1)) (Keep.refl [] _) rfl (Nat.le_refl _)) (by simp) rfl (HP5.out.pre.keep_nil HKa.out) HN.out.1 rfl (by simp; omega) HKa.out (Nat.le_refl _) (by simp) ?_
    intro g1 c1 w6 O1 L1 X1 G1 K1 KK1
    have HO1 := Lib.hid O1
    have HKb := Lib.hid KK1
    have HPb := Lib.hid (HPa.out.keep K1 (by simp [Value.ownBlock]; omega))
    have s2 : Hid (_ ∧ _) := And.intro HPb.out.all.1 HPb.out.all.2.1
    unfold maxLen at X1
    clear O1 G1 K1 KK1
    refine hK.out _ _ (fun _ => s2.out) ?_
    clear hK
    simp only [Act.put, List.setIfInBounds_toArray, List.set_cons_zero, List.set_cons_succ]
    refine anyU_one (i := 7) (by kernel_rfl) rfl rfl ?_
    intro K hK; simp only [List.getElem_toArray, List.getElem_cons_succ, List.getElem_cons_zero]
    go_simp
    refine hK.out _ _ (fun _ => s2.out) ?_
    clear hK
    refine anyU_one (i := 8) (by kernel_rfl) rfl rfl ?_
    intro K hK; simp only [List.getElem_toArray, List.getElem_cons_succ, List.getElem_cons_zero]
    go_simp
    refine hK.out _ _ (fun h => absurd rfl h) ?_
    clear hK
    refine anyU_done (by kernel_rfl) ?_ _
    have HF1 : ∀ W, Keep [] w6 W → Hid (Calls Tryd.prog 23 #[va, .slice (some ⟨g1, 0, none⟩) (l1.length + 1) c1] W fun e w' => e = .returned (.bool true) ∧ Keep [] W w') := fun W hk => affixes_eq W _ _ _ (HVa6.out.keep_nil (HKb.out.nil hk)) (HO1.out.reads.keep_nil hk)
    have HF2 : ∀ W, Keep [] w6 W → Hid (Calls Tryd.prog 23 #[vb, .slice A2 n2 k2] W fun e w' => e = .returned (.bool true) ∧ Keep [] W w') := fun W hk => affixes_eq W _ _ _ (HVb6.out.keep_nil (HKb.out.nil hk)) (HP5.out.suf.keep_nil (HKb.out.nil hk))
    have HK6 := Lib.hid (HK5.out.nil HKb.out)
    have HB6 := Lib.hid (HB5.out.keep HKb.out (by simp))
    have HP6 := Lib.hid (HP5.out.keep_nil HKb.out)
    have pn : w6.cell? ⟨w.heap.size, 2, none⟩ = some (.bool false) := HB6.out.all.2.2.1
    generalize (⟨l1, l2, false, l3, l4, mi, mf, xf, g, g2⟩ : PatD) = q at HB6 HP6 HSz HRq
    clear HVa6 HVb6 HO1 HKb HPb HPa HKa s0 s1 s2 p0 p1 p2 p3 p4 p5 p6 p7 p8 p9 pf pz HB5 HP5 HK5
    all_goals
      go_wp2_with fail
      refine (HF1 w6 (Keep.refl _ _)).out.mono ?_
      rintro e w7 ⟨rfl, hk7⟩
      have HF2' := HF2 w7 hk7
      have HK7 := Lib.hid (HK6.out.nil hk7)
      have HB7 := Lib.hid (HB6.out.keep hk7 (by simp))
      have HP7 := Lib.hid (HP6.out.keep_nil hk7)
      clear hk7 HF1 HF2 HK6 HB6 HP6 pn
      go_wp2_with fail
      refine HF2'.out.mono ?_
      rintro e w8 ⟨rfl, hk8⟩
      have HK8 := Lib.hid (HK7.out.nil hk8)
      have HB8 := Lib.hid (HB7.out.keep hk8 (by simp))
      have HP8 := Lib.hid (HP7.out.keep_nil hk8)
      clear hk8 HF2' HK7 HB7 HP7
      obtain ⟨p0, p1, p2, p3, p4, p5, p6, p7, p8, p9, pf, pz⟩ := HB8.out.all
      have HCp := Lib.hid (copied_any w8 _ _ _ _ q HP8.out HN.out HSz.out)
      simp only [patV] at HCp
      go_upto_region 12 with fail
      go_cut [8] (fun s8 wx => ∃ (bo : Nat) (V1 V2 V3 V4 : Option Addr) (i1 i2 i3 i4 : Nat), s8 = .pointer (some ⟨bo, 0, none⟩) ∧ PatAt wx bo (.slice V1 q.pre.length i1) (.slice V2 q.suf.length i2) (.slice V3 q.npre.length i3) (.slice V4 q.nsuf.length i4) q ∧
        RdP wx (.slice V1 q.pre.length i1) (.slice V2 q.suf.length i2) (.slice V3 q.npre.length i3) (.slice V4 q.nsuf.length i4) q ∧ NilP (.slice V1 q.pre.length i1) (.slice V2 q.suf.length i2) (.slice V3 q.npre.length i3) (.slice V4 q.nsuf.length i4) ∧ PatAt wx w.heap.size (.slice A1 n1 k1) (.slice A2 n2 k2) (.slice A3 n3 k3) (.slice A4 n4 k4) q ∧
        RdP wx (.slice A1 n1 k1) (.slice A2 n2 k2) (.slice A3 n3 k3) (.slice A4 n4 k4) q ∧ Keep [] w wx)
      case first =>
        go_wp2_with fail
        refine HCp.out.mono ?_
        rintro e w9 ⟨u1', u2', u3', u4', rfl, hR9, hN9, hK9⟩
        obtain ⟨V1, i1, rfl, _, _, _⟩ := hR9.pre
        obtain ⟨V2, i2, rfl, _, _, _⟩ := hR9.suf
        obtain ⟨V3, i3, rfl, _, _, _⟩ := hR9.npre
        obtain ⟨V4, i4, rfl, _, _, _⟩ := hR9.nsuf
        have HR9 := Lib.hid hR9
        have HN9 := Lib.hid hN9
        have HK9 := Lib.hid (HK8.out.nil hK9)
        have HB9 := Lib.hid (HB8.out.keep hK9 (by simp))
        have HP9 := Lib.hid (HP8.out.keep_nil hK9)
        clear hR9 hN9 hK9
        go_wp2
        go_meet
        exact ⟨w9.heap.size, V1, V2, V3, V4, i1, i2, i3, i4, rfl, Blk.new _ _ _, below_end HR9.out HB9.out HP9.out HN9.out HK9.out ((Keep.refl _ _).alloc _)⟩
      case rest =>
        obtain ⟨bo, V1, V2, V3, V4, i1, i2, i3, i4, rfl, hBo, hRo, hNo, hB9, hP9, hK9⟩ := hcut
        have HBo := Lib.hid hBo
        have HRo := Lib.hid hRo
        have HB9 := Lib.hid hB9
        have HP9 := Lib.hid hP9
        have HK9 := Lib.hid hK9
        have HBl := Lib.hid (below_any _ _ _ _ _ _ _ _ _ _ _ _ _ q hRo hNo HSz.out)
        clear p0 p1 p2 p3 p4 p5 p6 p7 p8 p9 pf pz HCp
        obtain ⟨b0, b1, b2, b3, b4, b5, b6, b7, b8, b9, bf, bz⟩ := hBo.all
        clear hBo hRo hNo hB9 hP9 hK9
        simp only [patV] at HBl
        rw [HRq.out, if_pos rfl] at HBl
        go_wp2_with fail
        refine HBl.out.mono ?_
        rintro e w10 ⟨va', vb', rfl, hva, hvb, _, hk10⟩
        obtain ⟨Aa, ca, rfl, a1, a2, a3, ha⟩ := hva.blkO
        obtain ⟨Ab, cb, rfl, d1, d2, d3, hb⟩ := hvb.blkO
        generalize (aheadL q).length = na at *
        generalize (behindL q).length = nb at *
        unfold maxLen at a2 d2
        have HAa := Lib.hid ha
        have HAb := Lib.hid hb
        have HK10 := Lib.hid hk10
        have HX3 := Lib.hid a3
        have HX4 := Lib.hid d3
        clear ha hb hk10 hva hvb HBl a3 d3 b0 b1 b2 b3 b4 b5 b6 b7 b8 b9 bf bz
        go_wp2
        go_loopg [75] na (fun k s wx => ∃ m : Nat, m + k = na ∧ s = .int .i64 m ∧ BlkO wc.heap.size wx Aa na ∧ BlkO wc.heap.size wx Ab nb ∧ Keep [] wc wx)
        case atStart => exact ⟨0, by omega, rfl, HAa.out, HAb.out, HK10.out⟩
        case round =>
          obtain ⟨m, hm, rfl, h1, h2, h3⟩ := hrel
          have Hm := Lib.hid hm
          have H1 := Lib.hid h1
          have H2 := Lib.hid h2
          have H3 := Lib.hid h3
          have hm4 : m ≤ na := by omega
          by_cases hlt : m < na
          · obtain ⟨ad, rfl⟩ : ∃ ad, Aa = some ad := by
              cases Aa with
              | none => exact absurd (HX3.out rfl) (by omega)
              | some ad => exact ⟨ad, rfl⟩
            obtain ⟨gg, cs, rfl, hgB, hgb, hgs⟩ := h1 _ rfl
            obtain ⟨uc, e1⟩ : ∃ uc, wr.cell? ⟨gg, m * 3, none⟩ = some uc := ⟨_, hgb.cell_eq (Array.getElem?_eq_getElem (by omega))⟩
            have f1 := hgb.frozen (m * 3)
            clear h1 h2 h3 hm hgb
            go_wp2
            go_roundg (gk - 1)
            case measure => have := Hm.out; omega
            case rel => exact ⟨m + 1, by have := Hm.out; omega, by go_num, H1.out.set _ _ _, H2.out.set _ _ _, H3.out.setCell (.inr hgB) _⟩
          · clear h1 h2 h3 hm
            go_wp2
            go_loopg [85] nb (fun k s wx => ∃ m : Nat, m + k = nb ∧ s = .int .i64 m ∧ BlkO wc.heap.size wx Ab nb ∧ Keep [] wc wx)
            case atStart => exact ⟨0, by omega, rfl, H2.out, H3.out⟩
            case round =>
              obtain ⟨m', hm, rfl, h2, h3⟩ := hrel
              have Hm' := Lib.hid hm
              have H2' := Lib.hid h2
              have H3' := Lib.hid h3
              have hm4' : m' ≤ nb := by omega
              by_cases hlt' : m' < nb
              · obtain ⟨ad, rfl⟩ : ∃ ad, Ab = some ad := by
                  cases Ab with
                  | none => exact absurd (HX4.out rfl) (by omega)
                  | some ad => exact ⟨ad, rfl⟩
                obtain ⟨gg, cs, rfl, hgB, hgb, hgs⟩ := h2 _ rfl
                obtain ⟨uc, e1⟩ : ∃ uc, wr.cell? ⟨gg, m' * 3, none⟩ = some uc := ⟨_, hgb.cell_eq (Array.getElem?_eq_getElem (by omega))⟩
                have f1 := hgb.frozen (m' * 3)
                clear h2 h3 hm hgb
                go_wp2
                go_roundg (gk - 1)
                case measure => have := Hm'.out; omega
                case rel => exact ⟨m' + 1, by have := Hm'.out; omega, by go_num, H2'.out.set _ _ _, H3'.out.setCell (.inr hgB) _⟩
              · clear h2 h3 hm
                have HSm := Lib.hid (same_eq _ _ _ _ _ _ _ _ _ q (HRo.out.keep_nil H3'.out) (HP9.out.keep_nil H3'.out))
                obtain ⟨b0, b1, b2, b3, b4, b5, b6, b7, b8, b9, bf, bz⟩ := (HBo.out.keep H3'.out (by simp)).all
                obtain ⟨p0, p1, p2, p3, p4, p5, p6, p7, p8, p9, pf, pz⟩ := (HB9.out.keep H3'.out (by simp)).all
                simp only [patV] at HSm
                go_wp2_with (go_at_call 13; refine HSm.out.mono ?_; rintro e w11 ⟨rfl, hk11⟩)
                go_ret
                exact ⟨rfl, (HK9.out.nil H3'.out).nil hk11⟩
end Go.Proofs.YtkkglaglnfebjaaDoor
