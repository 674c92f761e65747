/- Walks: the law NumPatPieces. -/
import Derived.Test.YtkkglaglnfebjaaDoorWGroups
import Derived.Test.YtkkglaglnfebjaaDoorGL
namespace Go.Proofs.YtkkglaglnfebjaaDoor
open Go.RowKit Go.IntWalk

theorem min_nat500 (n : Nat) : ∃ m : Nat, min (n : Int) 500 = (m : Int) ∧ m = min n 500 := ⟨min n 500, by omega, rfl⟩
theorem RdP.cut {w : World} {A1 A2 A3 A4 : Option Addr} {n1 n2 n3 n4 k1 k2 k3 k4 : Nat} {p : PatD} (h : RdP w (.slice A1 n1 k1) (.slice A2 n2 k2) (.slice A3 n3 k3) (.slice A4 n4 k4) p) :
    RdP w (.slice A1 (min n1 30) k1) (.slice A2 (min n2 30) k2) (.slice A3 (min n3 30) k3) (.slice A4 (min n4 30) k4) (cutD p) := by
  have key : ∀ A n k l, RdA w (.slice A n k) l → RdA w (.slice A (min n 30) k) (l.take 30) := fun A n k l h => by
    have := h.take (min n 30) (Nat.min_le_left _ _)
    have hl := h.len.1
    rwa [show l.take (min n 30) = l.take 30 by rw [hl]; rcases Nat.le_total l.length 30 with hc | hc <;> simp [hc, List.take_of_length_le]] at this
  exact ⟨key _ _ _ _ h.pre, key _ _ _ _ h.suf, key _ _ _ _ h.npre, key _ _ _ _ h.nsuf⟩
/-- The pieces' texts are short enough. -/
def TxtSz (p : PatD) : Prop := ∀ a, a ∈ p.pre ∨ a ∈ p.suf ∨ a ∈ p.npre ∨ a ∈ p.nsuf → a.t.size ≤ 9223372036854775000
theorem TxtSz.cut {p : PatD} (h : TxtSz p) : PatSz (cutD p) := ⟨by simp [cutD]; omega, fun a ha => h a (by
  simp only [cutD] at ha
  rcases ha with ha | ha | ha | ha
  · exact .inl (List.mem_of_mem_take ha)
  · exact .inr (.inl (List.mem_of_mem_take ha))
  · exact .inr (.inr (.inl (List.mem_of_mem_take ha)))
  · exact .inr (.inr (.inr (List.mem_of_mem_take ha))))⟩

theorem PatAt.store {w : World} {h : Nat} {u1 u2 u3 u4 : Value} {q : PatD} (H : PatAt w h u1 u2 u3 u4 q) (v1 v2 v3 v4 : Value) (p : PatD) :
    PatAt ((((((((((w.setCell ⟨h, 0, none⟩ v1).setCell ⟨h, 1, none⟩ v2).setCell ⟨h, 2, none⟩ (.bool p.neg)).setCell ⟨h, 3, none⟩ v3).setCell ⟨h, 4, none⟩ v4).setCell ⟨h, 5, none⟩ (.int .i64 p.mi)).setCell ⟨h, 6, none⟩ (.int .i64 p.mf)).setCell ⟨h, 7, none⟩ (.int .i64 p.xf)).setCell ⟨h, 8, none⟩ (.int .i64 p.g)).setCell ⟨h, 9, none⟩ (.int .i64 p.g2)) h v1 v2 v3 v4 p := by
  have h0 : Blk _ h 25 #[v1, u2, .bool q.neg, u3, u4, .int .i64 q.mi, .int .i64 q.mf, .int .i64 q.xf, .int .i64 q.g, .int .i64 q.g2] := Blk.set_ H 0 (v1)
  have h1 : Blk _ h 25 #[v1, v2, .bool q.neg, u3, u4, .int .i64 q.mi, .int .i64 q.mf, .int .i64 q.xf, .int .i64 q.g, .int .i64 q.g2] := Blk.set_ h0 1 (v2)
  have h2 : Blk _ h 25 #[v1, v2, .bool p.neg, u3, u4, .int .i64 q.mi, .int .i64 q.mf, .int .i64 q.xf, .int .i64 q.g, .int .i64 q.g2] := Blk.set_ h1 2 (.bool p.neg)
  have h3 : Blk _ h 25 #[v1, v2, .bool p.neg, v3, u4, .int .i64 q.mi, .int .i64 q.mf, .int .i64 q.xf, .int .i64 q.g, .int .i64 q.g2] := Blk.set_ h2 3 (v3)
  have h4 : Blk _ h 25 #[v1, v2, .bool p.neg, v3, v4, .int .i64 q.mi, .int .i64 q.mf, .int .i64 q.xf, .int .i64 q.g, .int .i64 q.g2] := Blk.set_ h3 4 (v4)
  have h5 : Blk _ h 25 #[v1, v2, .bool p.neg, v3, v4, .int .i64 p.mi, .int .i64 q.mf, .int .i64 q.xf, .int .i64 q.g, .int .i64 q.g2] := Blk.set_ h4 5 (.int .i64 p.mi)
  have h6 : Blk _ h 25 #[v1, v2, .bool p.neg, v3, v4, .int .i64 p.mi, .int .i64 p.mf, .int .i64 q.xf, .int .i64 q.g, .int .i64 q.g2] := Blk.set_ h5 6 (.int .i64 p.mf)
  have h7 : Blk _ h 25 #[v1, v2, .bool p.neg, v3, v4, .int .i64 p.mi, .int .i64 p.mf, .int .i64 p.xf, .int .i64 q.g, .int .i64 q.g2] := Blk.set_ h6 7 (.int .i64 p.xf)
  have h8 : Blk _ h 25 #[v1, v2, .bool p.neg, v3, v4, .int .i64 p.mi, .int .i64 p.mf, .int .i64 p.xf, .int .i64 p.g, .int .i64 q.g2] := Blk.set_ h7 8 (.int .i64 p.g)
  have h9 : Blk _ h 25 #[v1, v2, .bool p.neg, v3, v4, .int .i64 p.mi, .int .i64 p.mf, .int .i64 p.xf, .int .i64 p.g, .int .i64 p.g2] := Blk.set_ h8 9 (.int .i64 p.g2)
  exact h9
/-- Join of what reads as these strings. -/
theorem join_rd {w : World} {v : Value} {L : List ByteArray} (h : RdS w v L) (hl : L ≠ []) (hn : L.length ≤ 1000000) (t : ByteArray) (hj : (L.map (·.data.toList)).flatten = t.data.toList) (ht : t.size ≤ 1000) :
    Calls Tryd.prog 27 #[v, .string ⟨#[]⟩] w fun e w' => e = .returned (.string t) ∧ Keep [] w w' := by
  obtain ⟨A, cap, rfl, h1, h2, h3⟩ := h
  obtain ⟨g, o, rfl, hg, hc⟩ := h3 hl
  have e1 : Lib.join (L.map (·.data.toList)) (⟨#[]⟩ : ByteArray).data.toList = t.data.toList := by
    rw [show (⟨#[]⟩ : ByteArray).data.toList = [] from rfl, join_empty, hj]
  have e2 : t.data.toList.length = t.size := by rw [Array.length_toList]; rfl
  refine (Tryd.strings_Join g o cap L ⟨#[]⟩ w hc hg (by omega) h1 (by rw [e1]; omega)).mono fun e w' ⟨he, hb⟩ => ⟨?_, Keep.of_below hb⟩
  rw [he, e1]
set_option maxRecDepth 100000 in
set_option maxHeartbeats 1000000 in
theorem law_pieces {B : Nat} (w : World) (hE : Env B w) (A1 A2 A3 A4 : Option Addr) (n1 n2 n3 n4 k1 k2 k3 k4 : Nat) (p : PatD) (s : ByteArray) (least : Int) (hp : RdP w (.slice A1 n1 k1) (.slice A2 n2 k2) (.slice A3 n3 k3) (.slice A4 n4 k4) p) (hsz : TxtSz p) (hs : s.size ≤ 9223372036854775000) :
    Calls Tryd.prog 7 #[patV (.slice A1 n1 k1) (.slice A2 n2 k2) (.slice A3 n3 k3) (.slice A4 n4 k4) p, .string s, .int .i64 least] w fun e w' => e = .returned (.bool true) ∧ Keep [] w w' := by
  have HE := Lib.hid hE
  have HP := Lib.hid hp
  have HSz := Lib.hid hsz.cut
  have HB0 := Lib.hid (PatAt.new w (.slice A1 n1 k1) (.slice A2 n2 k2) (.slice A3 n3 k3) (.slice A4 n4 k4) p)
  have HWk := Lib.hid (wakes_any (w.alloc (boxP (.slice A1 n1 k1) (.slice A2 n2 k2) (.slice A3 n3 k3) (.slice A4 n4 k4) p)) (hE.below ((Below.refl B w).alloc hE.le _)))
  clear hE hp hsz
  unfold boxP at HB0 HWk
  simp only [patV]
  go_enter Tryd.func7, Tryd.ntmps7
  go_upto_region 3 with (go_at_call 10; refine HWk.out.mono ?_; rintro e w1 ⟨rfl, hk1⟩)
  have HK1 := Lib.hid (((Keep.refl [] w).alloc _).nil hk1)
  have HB1 := Lib.hid (HB0.out.keep hk1 (by simp))
  have HP1 := Lib.hid (HP.out.keep_nil HK1.out)
  obtain ⟨p0, p1, p2, p3, p4, p5, p6, p7, p8, p9, pf, pz⟩ := HB1.out.all
  clear hk1 HB0 HWk HE
  obtain ⟨m, hm, hm2⟩ := min_nat500 s.size
  have hms : m ≤ s.size := by omega
  have hms2 : (m : Int) ≤ s.size := by omega
  have hm5 : m ≤ 500 := by omega
  have HM2 := Lib.hid hm2
  clear hm2
  have hC := Lib.hid (cut_any w1.drew A1 A2 A3 A4 n1 n2 n3 n4 k1 k2 k3 k4 p (HP.out.keep_nil HK1.out.drew))
  go_cut [1] (fun s1 wx => s1 = .string (s.extract 0 m) ∧ PatAt wx w.heap.size (.slice A1 (min n1 30) k1) (.slice A2 (min n2 30) k2) (.slice A3 (min n3 30) k3) (.slice A4 (min n4 30) k4) (cutD p) ∧ Keep [] w wx)
  case first =>
    simp only [patV] at hC
    go_region_with (go_at_call 15; refine hC.out.mono ?_; rintro e w2 ⟨rfl, hk2⟩; have HB2 := Lib.hid ((HB1.out.drewN 1).keep hk2 (by simp)); have HK2 := Lib.hid (HK1.out.drew.nil hk2); obtain ⟨q0, q1, q2, q3, q4, q5, q6, q7, q8, q9, qf, qz⟩ := HB2.out.all; clear hk2)
    all_goals
      go_wp2_with fail
      go_meet
      refine ⟨rfl, HB2.out.store _ _ _ _ _, ?_⟩
      repeat (refine Keep.setCell ?_ (.inr (Nat.le_refl _)) _)
      exact HK2.out
  case rest =>
    obtain ⟨rfl, hB2, hK2⟩ := hcut
    have HB2 := Lib.hid hB2
    have HK2 := Lib.hid hK2
    have HP2 := Lib.hid (HP.out.keep_nil hK2).cut
    have ht : (s.extract 0 m).size ≤ 500 := by rw [ext_size _ _ _ hms]; omega
    clear hB2 hK2 hC HB1 HK1 HP1 p0 p1 p2 p3 p4 p5 p6 p7 p8 p9 pf pz hm HM2 hms hms2 hm5
    generalize s.extract 0 m = t at *
    obtain ⟨p0, p1, p2, p3, p4, p5, p6, p7, p8, p9, pf, pz⟩ := HB2.out.all
    have hG := groups_any wc _ _ _ _ (cutD p) t least HP2.out HSz.out ht
    by_cases hcnd : rightB (cutD p) = true ∧ digsB t = true ∧ 0 ≤ least
    · rw [if_pos hcnd] at hG
      have HG := Lib.hid hG
      obtain ⟨hr, _, hle⟩ := hcnd
      clear hG
      by_cases hone : (cutD p).g = 0 ∨ (t.size : Int) - (cutD p).g < 1 ∨ (t.size : Int) - (cutD p).g < least
      · have HG1 := HG.out
        rw [groupsL_one _ _ _ hone] at HG1
        have HG2 := Lib.hid HG1
        simp only [patV] at HG2
        have HO := Lib.hid hone
        obtain ⟨_, ng⟩ := right_nums _ hr
        have ng0 : 0 ≤ (cutD p).g ∧ (cutD p).g ≤ 63 := by omega
        obtain ⟨ng1, ng2⟩ := ng0
        clear HG HG1 hone hr ng
        go_wp2_with fail
        refine HG2.out.mono ?_
        rintro e w3 ⟨v, rfl, hv, hk3⟩
        have HJ := Lib.hid (join_rd hv (by simp) (by simp) t (by simp) (by omega))
        have HK3 := Lib.hid (HK2.out.nil hk3)
        have HB3 := Lib.hid (HB2.out.keep hk3 (by simp))
        obtain ⟨A, cap, rfl, _, _, _⟩ := hv
        clear hk3 p0 p1 p2 p3 p4 p5 p6 p7 p8 p9 pf pz
        go_wp2_with fail
        refine HJ.out.mono ?_
        rintro e w4 ⟨rfl, hk4⟩
        have HK4 := Lib.hid (HK3.out.nil hk4)
        obtain ⟨p0, p1, p2, p3, p4, p5, p6, p7, p8, p9, pf, pz⟩ := (HB3.out.keep hk4 (by simp)).all
        clear hk4
        generalize (cutD p).g = G at *
        go_wp2
        all_goals
          go_ret
          refine ⟨congrArg Ending.returned (congrArg Value.bool ?_), HK4.out⟩
          have ho := HO.out
          first
            | rfl
            | exact decide_eq_true (by omega)
            | (simp only [Bool.or_eq_true, decide_eq_true_eq, beq_iff_eq]; omega)
      · have hOK := groupsL_ok (cutD p) t least hr hone
        have hlen0 := groupsL_len (cutD p) t least hr
        generalize groupsL (cutD p) t least = L at *
        have HG2 := Lib.hid HG.out
        simp only [patV] at HG2
        have HOK := Lib.hid hOK
        obtain ⟨M, hM⟩ : ∃ M, L.length = M + 2 := ⟨L.length - 2, by have := hOK.len; omega⟩
        obtain ⟨_, ng⟩ := right_nums _ hr
        have ng0 : 1 ≤ (cutD p).g ∧ (cutD p).g ≤ 63 ∧ 1 ≤ (cutD p).g2 ∧ (cutD p).g2 ≤ 63 := by omega
        obtain ⟨ng1, ng2, ng3, ng4⟩ := ng0
        have hlen : L.length ≤ 1000 := by omega
        clear hlen0
        clear HG hone hr ng hOK
        go_wp2_with fail
        refine HG2.out.mono ?_
        rintro e w3 ⟨v, rfl, hv, hk3⟩
        have hne : L ≠ [] := by rintro rfl; simp at hM
        have HJ := Lib.hid (join_rd hv hne (by omega) t HOK.out.joins (by omega))
        have HK3 := Lib.hid (HK2.out.nil hk3)
        have HB3 := Lib.hid (HB2.out.keep hk3 (by simp))
        obtain ⟨A, cap, rfl, hcap1, hcap2, hcells⟩ := hv
        obtain ⟨g, o, rfl, hgl, hcell⟩ := hcells hne
        have HC := Lib.hid hcell
        have HM := Lib.hid hM
        rw [hM] at hcap1 HJ ⊢
        unfold maxLen at hcap2
        clear hk3 p0 p1 p2 p3 p4 p5 p6 p7 p8 p9 pf pz hcells hcell hne hM
        go_wp2_with fail
        refine HJ.out.mono ?_
        rintro e w4 ⟨rfl, hk4⟩
        have HK4 := Lib.hid (HK3.out.nil hk4)
        obtain ⟨p0, p1, p2, p3, p4, p5, p6, p7, p8, p9, pf, pz⟩ := (HB3.out.keep hk4 (by simp)).all
        have hcell4 : ∀ j x, L[j]? = some x → w4.cell? ⟨g, o + j, none⟩ = some (.string x) := fun j x hx => (hk4.cell (p := ⟨g, o + j, none⟩) hgl (by simp)).trans (HC.out j x hx)
        obtain ⟨x0, hx0⟩ : ∃ x, L[0]? = some x := ⟨_, List.getElem?_eq_getElem (by rw [HM.out]; omega)⟩
        obtain ⟨xl, hxl⟩ : ∃ x, L[M + 1]? = some x := ⟨_, List.getElem?_eq_getElem (by rw [HM.out]; omega)⟩
        have q0 : w4.cell? ⟨g, o, none⟩ = some (.string x0) := hcell4 0 x0 hx0
        have q1 : w4.cell? ⟨g, o + (M + 1), none⟩ = some (.string xl) := hcell4 (M + 1) xl hxl
        have f0 := HOK.out.fst x0 hx0
        have f1 := HOK.out.last xl (by rw [HM.out]; exact hxl)
        obtain ⟨f2, f3⟩ := f0
        have HC4 := Lib.hid hcell4
        have t1 : ((xl.size : Int) != (cutD p).g) = false := by simpa using f1
        have t2 : decide ((x0.size : Int) < 1) = false := by simp; omega
        have t3 : decide ((cutD p).g2 < (x0.size : Int)) = false := by simp; omega
        clear hk4 hcell4 hx0 hxl f1 HC HJ
        go_upto_region 12 with fail
        have s1 : IntKind.i64.wrap ((M : Int) + 2 - 1) = (M : Int) + 1 := by rw [i64_in _ (by omega)]; omega
        have s2 : (0 : Int) ≤ (M : Int) + 1 := by omega
        have s3 : ((M : Int) + 1).toNat = M + 1 := by omega
        have s4 : (M : Int) + 1 < (M : Int) + 2 := by omega
        have s5 : M + 1 < M + 2 := by omega
        go_quiet (fail)
        clear s1 s2 s3 s4 s5
        clear p0 p1 p2 p3 p4 p5 p6 p7 p8 q0 q1 t1 t2 t3
        have hcp : M + 1 ≤ cap := by omega
        have hcp2 : (M : Int) + 1 ≤ cap := by omega
        go_wp2
        have pk : ∀ n, (w4.drewN n).cell? ⟨w.heap.size, 9, none⟩ = some (.int .i64 (cutD p).g2) := fun _ => p9
        go_loop [95] (fun i => ∃ k : Nat, k ≤ M ∧ i = .int .i64 k) (fun i => M - (intOf i).toNat)
        case atStart => exact ⟨0, Nat.zero_le _, rfl⟩
        case round =>
          obtain ⟨k, hk, rfl⟩ := hrel
          by_cases hlt : k < M
          · obtain ⟨x, hx⟩ : ∃ x, L[k + 1]? = some x := ⟨_, List.getElem?_eq_getElem (by rw [HM.out]; omega)⟩
            have c0 : w4.cell? ⟨g, o + 1 + k, none⟩ = some (.string x) := by rw [Nat.add_assoc, Nat.add_comm 1 k]; exact HC4.out _ x hx
            have hmid := HOK.out.mid (k + 1) x (by omega) (by rw [HM.out]; omega) hx
            have t1 : ((x.size : Int) != (cutD p).g2) = false := by simpa using hmid
            have hkb : k < M + 2 - 1 - 1 := by omega
            clear hmid hx
            go_wp2
            go_round
            case rel => exact ⟨k + 1, by omega, by go_num⟩
            case measure => simp [intOf]; omega
          · go_wp2
            go_ret
            exact ⟨rfl, HK4.out.drewN _⟩
    · rw [if_neg hcnd] at hG
      simp only [patV] at hG
      have HG := Lib.hid hG
      clear hG hcnd
      go_wp2_with fail
      refine HG.out.mono ?_
      rintro e w3 ⟨v, rfl, hv, hk3⟩
      have HK3 := Lib.hid (HK2.out.nil hk3)
      obtain ⟨A, cap, rfl, _, _, _⟩ := hv
      clear hk3 p0 p1 p2 p3 p4 p5 p6 p7 p8 p9 pf pz
      go_wp2
      go_ret
      exact ⟨rfl, HK3.out⟩
end Go.Proofs.YtkkglaglnfebjaaDoor
