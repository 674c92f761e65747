/- Walks: choice of the reader of messages, also where it fails. Walks: argument of the reader of messages, where it fails. Walks: message of the reader of messages, also where it fails. Walks: message.Parse. Walks: message.Parse, where it fails. -/
import Derived.Test.YtjldgcpmdcoejaaGreatDoorMY
import Derived.Deep.RegionHeld2
import Derived.Test.YtjldgcpmdcoejaaGreatDoorMA
import Derived.Test.YtjldgcpmdcoejaaGreatDoorMM
import Derived.Test.YtjldgcpmdcoejaaGreatDoorWCheck
import Derived.Defers
import Derived.Recover
namespace Go.Proofs.YtjldgcpmdcoejaaGreatDoor
open Go.RowKit

/-- message is right, failing or not, where f steps are enough. -/
def MsgD (s : ByteArray) (f : Nat) : Prop := ∀ (w : World) (B g p n d : Nat) (v : Value) (hs : List Bool), EnvM B w → B ≤ g → Rr w g s p n d v → Hs B w v hs → p ≤ s.size → n ≤ 1024 → d ≤ 8 → hs.length = d → msgF s f d (topB hs) [] p n ≠ .out →
  Calls Tryz.prog 36 #[.pointer (some ⟨g, 0, none⟩)] w (MPost f w B g s p d v hs (msgF s f d (topB hs) [] p n))
/-- A panic of its kind, and no other end. -/
def OnlyP (R : List PanicEntry → World → Prop) : Exit → Act → World → Prop
  | .panic c, a, w => a.defers = [] ∧ R c w
  | _, _, _ => False
theorem OnlyP.cases {R : List PanicEntry → World → Prop} {x : Exit} {a : Act} {w : World} (h : OnlyP R x a w) : ∃ c, x = .panic c ∧ a.defers = [] ∧ R c w := by
  cases x <;> first | exact ⟨_, rfl, h⟩ | exact (h : False).elim
theorem MsgD.weak {s : ByteArray} {f : Nat} (h : MsgD s f) : MsgC s f := fun w B g p n d v hs h1 h2 h3 h4 h5 h6 h7 h8 h9 _ => h w B g p n d v hs h1 h2 h3 h4 h5 h6 h7 h8 h9
set_option maxRecDepth 100000 in
set_option maxHeartbeats 40000000 in
/-- choice, also where it fails. -/
theorem choice_all (s : ByteArray) (f : Nat) (hM : MsgD s f) (hs : s.size ≤ 1000000000) (w : World) (B g pb : Nat) (pt : PT) (o p n d : Nat) (v : Value) (hl : List Bool) (hE : EnvM B w) (hBg : B ≤ g) (hBp : B ≤ pb) (h : Rr w g s p n d v) (hH : Hs B w v hl)
    (hp : p ≤ s.size) (hn : n ≤ 1024) (hd : d ≤ 8) (hld : hl.length = d) (hP : Blk w pb 47 (pt.cells (.slice none 0 0)).toArray) (hpt : pt.cs = [] ∧ pt.off = 0) (hne : choiS s (fun p n => msgF s f (d + 1) (decide (pt.k ≠ 4)) [] p n) f pt.k o p n d ≠ .out) :
    Calls Tryz.prog 99 #[.pointer (some ⟨g, 0, none⟩), .pointer (some ⟨pb, 0, none⟩), .int .i64 o] w (ChPost f w B g pb s pt p d v hl (choiS s (fun p n => msgF s f (d + 1) (decide (pt.k ≠ 4)) [] p n) f pt.k o p n d)) := by
  have HE := Lib.hid hE
  have HR := Lib.hid h
  have HH := Lib.hid hH
  have HP := Lib.hid hP
  have HPT := Lib.hid hpt
  have HLD := Lib.hid hld
  obtain ⟨c0, c1, c2, c3, c4, f1, f2, f3, f4⟩ := h.cells
  have hgl := h.lt
  have hpl := hP.lt
  have b0 : w.cell? ⟨pb, 0, none⟩ = some (.int .i64 pt.k) := hP.cell_eq rfl
  have HGP : Hid (g ≠ pb) := Blk.ne_ h hP (by decide)
  by_cases h8 : d = 8
  · subst h8
    have HX : Hid (choiS s (fun p n => msgF s f (8 + 1) (decide (pt.k ≠ 4)) [] p n) f pt.k o p n 8 = .bad 3 o) := by unfold Hid choiS; rw [if_pos rfl]
    clear h hH hP hE hne hld hpt
    go_enter Tryz.func99, Tryz.ntmps99
    go_wp2_with (go_at_call 37; refine (rfail_any _ _ _ _).mono ?_; rintro x w3 ⟨rfl, rfl⟩)
    rw [HX.out]
    exact ⟨rfl, rfl, Below.refl _ _⟩
  have h8' : ((d : Int) == 8) = false := by simp; omega
  obtain ⟨A, cap, rfl, hA⟩ := hH.form
  have hbk : Hid (∀ x ∈ (Value.slice A hl.length cap).ownBlock.toList, x ≠ g ∧ x ≠ pb) := fun x hx => ⟨by rintro rfl; exact own_blk_ne hH h (by decide) (by simpa using hx), by rintro rfl; exact own_blk_ne hH hP (by decide) (by simpa using hx)⟩
  clear hA h hH hP hE hld hpt
  have hd8 : d < 8 := by omega
  obtain ⟨kb, hkb⟩ : ∃ kb : Bool, kb = decide (pt.k ≠ 4) := ⟨_, rfl⟩
  have hk4 : (pt.k != 4) = kb := by rw [hkb]; by_cases hk : pt.k = 4 <;> simp [hk]
  have HKB := Lib.hid hkb
  rw [← hkb] at hne ⊢
  clear hkb h8
  have hmf : ∀ (fn : Fn) (first cap : Array Value) (w : World), (Instr.makeFunc fn first cap).run Tryz.prog w = .ok (.func fn first cap) w := fun _ _ _ _ => rfl
  go_enter Tryz.func99, Tryz.ntmps99
  go_upto_region 3 with fail
  go_cut [] (fun W => ∃ v2, Rr W g s p n (d + 1) v2 ∧ Hs B W v2 (hl ++ [kb]) ∧ Blk W pb 47 (pt.cells (.slice none 0 0)).toArray ∧ Keep (g :: (Value.slice A hl.length cap).ownBlock.toList) w W ∧ (∀ b ∈ v2.ownBlock.toList, b ∈ (Value.slice A hl.length cap).ownBlock.toList ∨ w.heap.size ≤ b))
  case first =>
    have hR1 : Rr (w.setCell ⟨g, 3, none⟩ (.int .i64 ((d : Int) + 1))) g s p n (d + 1) (.slice A hl.length cap) := HR.out.setD (d + 1) _ (by omega)
    have K1 : Hid (Keep [g] w (w.setCell ⟨g, 3, none⟩ (.int .i64 ((d : Int) + 1)))) := (Keep.refl _ _).setCell (.inl (by simp)) _
    have hP1 : Blk (w.setCell ⟨g, 3, none⟩ (.int .i64 ((d : Int) + 1))) pb 47 (pt.cells (.slice none 0 0)).toArray := HP.out.keep K1.out (by have := HGP.out; simp; omega)
    have hH1 : Hs B (w.setCell ⟨g, 3, none⟩ (.int .i64 ((d : Int) + 1))) (.slice A hl.length cap) hl := HH.out.keep K1.out (fun x hx hc => by simp at hc; exact (hbk.out x hx).1 hc)
    have hs1 : w.heap.size = (w.setCell ⟨g, 3, none⟩ (.int .i64 ((d : Int) + 1))).heap.size := by simp [World.setCell]
    generalize w.setCell ⟨g, 3, none⟩ (.int .i64 ((d : Int) + 1)) = w1 at *
    clear c0 c1 c2 c3 c4 f1 f2 f3 f4 b0
    obtain ⟨c0, c1, c2, c3, c4, f1, f2, f3, f4⟩ := hR1.cells
    have b0 : w1.cell? ⟨pb, 0, none⟩ = some (.int .i64 pt.k) := hP1.cell_eq rfl
    have HR1 := Lib.hid hR1
    have HP1 := Lib.hid hP1
    have HH1 := Lib.hid hH1
    have hgo : some g ≠ (Value.slice A hl.length cap).ownBlock := fun hc => (hbk.out g (by rw [← hc]; simp)).1 rfl
    have hpo : some pb ≠ (Value.slice A hl.length cap).ownBlock := fun hc => (hbk.out pb (by rw [← hc]; simp)).2 rfl
    obtain ⟨ib, hib, ib0, ib1, ib2⟩ := info_parts infoBool
    have HIB := Lib.hid hib
    have HIB0 := Lib.hid ib0
    have HIB1 := Lib.hid ib1
    have HIB2 := Lib.hid ib2
    have hg1 : g < w1.heap.size := by omega
    have hp1 : pb < w1.heap.size := by omega
    have hB1 : B ≤ w1.heap.size := by omega
    have HS1 := Lib.hid hs1
    generalize hll : hl.length = m at *
    have hml : m ≤ 8 := by have := HLD.out; omega
    have HLL := Lib.hid hll
    have HOW : Hid (w1.ownsRow B 4 1 (.slice A m cap) m (hl.map Value.bool)) := by have := HH1.out; unfold Hs at this; rw [HLL.out] at this; exact this
    clear hR1 hP1 hH1 hib ib0 ib1 ib2 hs1 hll
    go_region_law (first | (refine step_append_lies _ (by rfl) _ _ _ (by rfl) B 4 ib _ 1 1 Tryz.underlying62 HIB.out HIB0.out HIB1.out HIB2.out rfl (by omega) (.slice A m cap) m (hl.map Value.bool) (by rfl) ((World.ownsRow.alloc (HOW.out) _).drew) ⟨w1.heap.size, 0, none⟩ 1 1 [.bool kb] (by rfl) (by rfl) (World.news_of_block (cs := #[.bool kb]) (t := 4) (fr := (0, 0)) (heap_alloc_new w1 _)) (by simp [Value.oneCell']) (by omega) (by unfold maxLen; omega) (by omega) (by simp; omega) (w1.heap.size + 1) (by simp) ?_; intro gg cap2 w2 hown2 hgrow hat hlt; have hR2 : Rr w2 g s p n (d + 1) (.slice A m cap) := Blk.grown (Blk.drew (Blk.alloc HR1.out _)) hgrow hgo; have hP2 : Blk w2 pb 47 (pt.cells (.slice none 0 0)).toArray := Blk.grown (Blk.drew (Blk.alloc HP1.out _)) hgrow hpo; obtain ⟨e0, e1, e2, e3, e4, z1, z2, z3, z4⟩ := hR2.cells; have k0 : w2.cell? ⟨pb, 0, none⟩ = some (.int .i64 pt.k) := hP2.cell_eq rfl; have HR2 := Lib.hid hR2; have HP2 := Lib.hid hP2; clear hR2 hP2))
    all_goals
      go_wp2_with fail
      go_meet
      have hK2 : Keep (Value.slice A m cap).ownBlock.toList w1 w2 := ((((Keep.refl _ w1).alloc _).drew).grown hgrow fun k hk => .inl (by simpa using hk))
      have hng : g ≠ gg := by
        intro hc
        subst hc
        rcases hat with h | h
        · exact hgo h.symm
        · omega
      have hnp : pb ≠ gg := by
        intro hc
        subst hc
        rcases hat with h | h
        · exact hpo h.symm
        · omega
      have hks : Keep [g] w2 (w2.setCell ⟨g, 4, none⟩ (.slice (some ⟨gg, 0, none⟩) (m + 1) cap2)) := (Keep.refl _ _).setCell (.inl (by simp)) _
      refine ⟨.slice (some ⟨gg, 0, none⟩) (m + 1) cap2, HR2.out.setV _, ?_, HP2.out.keep hks (by have := HGP.out; simp; omega), ?_, ?_⟩
      · have h0 : Hs B w2 (.slice (some ⟨gg, 0, none⟩) (m + 1) cap2) (hl ++ [kb]) := by
          unfold Hs
          rw [List.map_append, List.length_append, HLL.out]
          exact hown2
        exact h0.keep hks (fun x hx hc => by simp [Value.ownBlock] at hx hc; omega)
      · exact ((K1.out.mono (fun x hx => .inl (by simp at hx; simp [hx]))).same (hK2.mono (fun x hx => .inl (by simp at hx ⊢; exact .inr hx)))).same (hks.mono (fun x hx => .inl (by simp at hx; simp [hx])))
      · intro b hb
        simp [Value.ownBlock] at hb
        subst hb
        rcases hat with h | h
        · exact .inl (by simp [h])
        · exact .inr (by have := HS1.out; omega)
  case rest =>
    obtain ⟨v2, hR2, hH2, hP2, hK2, hO2⟩ := hcut
    have HR2 := Lib.hid hR2
    have HH2 := Lib.hid hH2
    have HP2 := Lib.hid hP2
    have HK2 := Lib.hid hK2
    have HO2 := Lib.hid hO2
    have hv2 : Hid (∀ x ∈ v2.ownBlock.toList, x ≠ g ∧ x ≠ pb) := fun x hx => ⟨by rintro rfl; exact own_blk_ne hH2 hR2 (by decide) (by simpa using hx), by rintro rfl; exact own_blk_ne hH2 hP2 (by decide) (by simpa using hx)⟩
    have hqs := skip_le s p hp
    clear c0 c1 c2 c3 c4 f1 f2 f3 f4 b0 hR2 hH2 hP2 hK2 hO2
    have hne2 : Hid ((offS s pt.k (skip s p)).thenM (fun off q => (caseF s (fun p n => msgF s f (d + 1) kb [] p n) pt.k f [] q n).then fun cs q2 n2 => if memW (cs.map Prod.fst) otherW then .ok (off, cs) q2 n2 else .bad 291 q2) = choiS s (fun p n => msgF s f (d + 1) kb [] p n) f pt.k o p n d) := by
      unfold Hid choiS
      rw [if_neg (by omega)]
    have hpq := skip_ge s p
    have HB2 := Lib.hid (blanks_any wc g s p n (d + 1) v2 HR2.out hp (by omega))
    generalize skip s p = q0 at *
    go_upto_region 5 with (go_at_call 95; refine HB2.out.mono ?_; rintro x w3 ⟨rfl, hR3, hk3⟩)
    have HR3 := Lib.hid hR3
    have HK3 := Lib.hid (HK2.out.same (hk3.mono (cs := g :: (Value.slice A hl.length cap).ownBlock.toList) (fun x hx => .inl (by simp at hx; simp [hx]))))
    have HP3 : Hid (Blk w3 pb 47 (pt.cells (.slice none 0 0)).toArray) := HP2.out.keep hk3 (by have := HGP.out; simp; omega)
    have HH3 : Hid (Hs B w3 v2 (hl ++ [kb])) := HH2.out.keep hk3 (fun x hx hc => by simp at hc; exact (hv2.out x hx).1 hc)
    obtain ⟨c0, c1, c2, c3, c4, f1, f2, f3, f4⟩ := hR3.cells
    have b0 : w3.cell? ⟨pb, 0, none⟩ = some (.int .i64 pt.k) := HP3.out.cell_eq rfl
    clear hR3 hk3 HB2 HR2 HP2 HH2 HK2
    obtain ⟨cb, hcb⟩ : ∃ cb : Bool, cb = (kb && Lib.hasPrefix (s.extract q0 s.size).data.toList offW) := ⟨_, rfl⟩
    have HCB := Lib.hid hcb
    clear hcb
    go_cut [57] (fun u W => u = .bool cb ∧ ∃ k, W = w3.drewN k)
    case first =>
      have hq1 : (q0 : Int) ≤ s.size := by omega
      have HP5 : Hid (∀ W, Calls Tryz.prog 71 #[.string (s.extract q0 s.size), .string ⟨#[111, 102, 102, 115, 101, 116, 58]⟩] W fun e w' => e = .returned (.bool (Lib.hasPrefix (s.extract q0 s.size).data.toList offW)) ∧ w' = W) := fun W => Tryz.strings_HasPrefix _ _ W
      cases kb with
      | false =>
        have HC : Hid (cb = false) := by unfold Hid; rw [HCB.out]; rfl
        go_quiet (fail)
        go_wp2_with fail
        go_meet
        exact ⟨by rw [HC.out], _, rfl⟩
      | true =>
        have HC : Hid (Lib.hasPrefix (s.extract q0 s.size).data.toList offW = cb) := by unfold Hid; rw [HCB.out]; rfl
        rw [HC.out] at HP5
        go_quiet ((go_at_call 71; exact Calls.quiet_of_same (HP5.out _)))
        go_wp2_with fail
        go_meet
        exact ⟨rfl, _, rfl⟩
    case rest =>
      obtain ⟨rfl, k3, hw3⟩ := hcut
      have HR4 : Hid (Rr wc g s q0 n (d + 1) v2) := by unfold Hid; rw [hw3]; exact HR3.out.drewN _
      have HP4 : Hid (Blk wc pb 47 (pt.cells (.slice none 0 0)).toArray) := by unfold Hid; rw [hw3]; exact HP3.out
      have HH4 : Hid (Hs B wc v2 (hl ++ [kb])) := by unfold Hid; rw [hw3]; exact HH3.out
      have HK4 : Hid (Keep (g :: (Value.slice A hl.length cap).ownBlock.toList) w wc) := by unfold Hid; rw [hw3]; exact HK3.out.drewN _
      clear hw3 c0 c1 c2 c3 c4 f1 f2 f3 f4 b0 HR3 HP3 HH3 HK3
      obtain ⟨c0, c1, c2, c3, c4, f1, f2, f3, f4⟩ := HR4.out.cells
      have hoX : ∀ x ∈ g :: (Value.slice A hl.length cap).ownBlock.toList, B ≤ x := fun x hx => by
        rcases List.mem_cons.1 hx with h | h
        · omega
        · exact (World.ownsRow.lt HH.out x (by simpa using h)).1
      have HOX := Lib.hid hoX
      clear hoX
      go_upto_if 57 with fail
      go_cut [57] (fun _ W => ∃ off q, offS s pt.k q0 = .ok off q ∧ q0 ≤ q ∧ q ≤ s.size ∧ Rr W g s q n (d + 1) v2 ∧ Blk W pb 47 (({ pt with off := off } : PT).cells (.slice none 0 0)).toArray ∧ Hs B W v2 (hl ++ [kb]) ∧ Keep ([g, pb] ++ (Value.slice A hl.length cap).ownBlock.toList) w W)
      case first =>
        cases cb with
        | false =>
          have HO : Hid (offS s pt.k q0 = .ok 0 q0) := by
            unfold Hid offS
            rw [if_neg]
            rintro ⟨h1, h2⟩
            have := HCB.out
            rw [h2, HKB.out, decide_eq_true h1] at this
            cases this
          go_wp2_with fail
          go_meet
          exact ⟨0, q0, HO.out, Nat.le_refl _, hqs, HR4.out, by rw [pt_off pt HPT.out.2]; exact HP4.out, HH4.out, HK4.out.mono (fun x hx => .inl (by simp at hx ⊢; rcases hx with h | h <;> simp [h]))⟩
        | true =>
          have HPX : Hid (pt.k ≠ 4 ∧ Lib.hasPrefix (s.extract q0 s.size).data.toList offW = true) := by
            have h1 := HCB.out
            rw [Eq.comm, Bool.and_eq_true, HKB.out, decide_eq_true_iff] at h1
            exact h1
          have hq7 := prefix_len HPX.out.2
          have HO : Hid (offS s pt.k q0 = (numS s (skip s (q0 + 7))).then fun v e => .ok v (skip s e)) := by unfold Hid offS; rw [if_pos HPX.out]
          have hst : Keep [g] wc (wc.setCell ⟨g, 1, none⟩ (.int .i64 ((q0 : Int) + 7))) := (Keep.refl _ _).setCell (.inl (by simp)) _
          have HB5 := Lib.hid (blanks_any _ g s (q0 + 7) n (d + 1) v2 (HR4.out.setAt (q0 + 7) ((q0 : Int) + 7) (by omega)) hq7 (by omega))
          have hq8 := skip_le s (q0 + 7) hq7
          have hq9 := skip_ge s (q0 + 7)
          have HST := Lib.hid hst
          clear hst
          generalize skip s (q0 + 7) = q1 at *
          go_wp2_with fail
          refine HB5.out.mono ?_
          rintro x w5 ⟨rfl, hR5, hk5⟩
          have HR5 := Lib.hid hR5
          have HK5 := Lib.hid (HK4.out.same ((HST.out.same hk5).mono (cs := g :: (Value.slice A hl.length cap).ownBlock.toList) (fun x hx => .inl (by simp at hx; simp [hx]))))
          have HK45 := Lib.hid (HST.out.same hk5)
          have HP5 : Hid (Blk w5 pb 47 (pt.cells (.slice none 0 0)).toArray) := HP4.out.keep HK45.out (by have := HGP.out; simp; omega)
          have HN5 := Lib.hid (rnumber_any (B := B) w5 g s q1 n (d + 1) v2 (HE.out.keep HK5.out HOX.out) hBg hR5 hq8 hs)
          clear hR5 hk5 HB5
          cases hnum : numS s q1 with
          | out => exact absurd hnum (numS_out _ _)
          | bad e r =>
            rw [hnum] at HN5
            have HX : Hid (choiS s (fun p n => msgF s f (d + 1) kb [] p n) f pt.k o p n d = .bad e r) := by
              unfold Hid; rw [← hne2.out, HO.out, hnum]; rfl
            clear hnum
            go_wp2_with fail
            refine HN5.out.mono ?_
            rintro x w6 ⟨rfl, hk6⟩
            go_wp2_with fail
            rw [HX.out]
            exact ⟨rfl, rfl, (HK5.out.same (hk6.mono (cs := g :: (Value.slice A hl.length cap).ownBlock.toList) (fun x hx => .inl (by simp at hx; simp [hx])))).below HOX.out HE.out.env.le⟩
          | ok y r =>
            rw [hnum] at HN5
            have hr := numS_ge hnum hq8
            have HO2 : Hid (offS s pt.k q0 = .ok y (skip s r)) := by unfold Hid; rw [HO.out, hnum]; rfl
            clear hnum
            go_wp2_with fail
            refine HN5.out.mono ?_
            rintro x w6 ⟨rfl, hR6, hk6⟩
            have HR6 := Lib.hid hR6
            have hP6 : Blk w6 pb 47 (pt.cells (.slice none 0 0)).toArray := HP5.out.keep hk6 (by have := HGP.out; simp; omega)
            have z5 := hP6.frozen 5
            have y5 : w6.cell? ⟨pb, 5, none⟩ = some (.int .i64 pt.off) := hP6.cell_eq rfl
            have HP6 := Lib.hid hP6
            have HK6 := Lib.hid (HK45.out.same hk6)
            clear hR6 hk6 hP6
            go_wp2_with fail
            have hks : Keep [pb] w6 (w6.setCell ⟨pb, 5, none⟩ (.int .i64 y)) := (Keep.refl _ _).setCell (.inl (by simp)) _
            have hR7 := HR6.out.keep hks (by have := HGP.out; simp; omega)
            refine (blanks_any _ g s r n (d + 1) v2 hR7 hr.2 (by omega)).mono ?_
            rintro x w8 ⟨rfl, hR8, hk8⟩
            go_wp2_with fail
            go_meet
            have hall : Keep [g, pb] wc w8 := ((HK6.out.mono (fun x hx => .inl (by simp at hx; simp [hx]))).same (hks.mono (fun x hx => .inl (by simp at hx; simp [hx])))).same (hk8.mono (fun x hx => .inl (by simp at hx; simp [hx])))
            have h9 := skip_ge s r
            refine ⟨y, skip s r, HO2.out, by omega, skip_le s r hr.2, hR8, ?_, HH4.out.keep hall (fun x hx hc => by have := hv2.out x hx; simp at hc; omega), (HK4.out.mono (fun x hx => .inl (by simp at hx ⊢; rcases hx with h | h <;> simp [h]))).same (hall.mono (fun x hx => .inl (by simp at hx ⊢; rcases hx with h | h <;> simp [h])))⟩
            exact (Blk.set_ HP6.out 5 (.int .i64 y)).keep hk8 (by have := HGP.out; simp; omega)
      case rest =>
        obtain ⟨off, q, hoff, hq1, hq2, hR5, hP5, hH5, hK5⟩ := hcut
        have HOFF := Lib.hid hoff
        have HR5 := Lib.hid hR5
        have HP5 := Lib.hid hP5
        have HH5 := Lib.hid hH5
        have HK5 := Lib.hid hK5
        clear hoff hR5 hP5 hH5 hK5 c0 c1 c2 c3 c4 f1 f2 f3 f4
        obtain ⟨M, hM2⟩ : ∃ M : Nat → Nat → RM (List PT), M = fun p n => msgF s f (d + 1) kb [] p n := ⟨_, rfl⟩
        have HM2 := Lib.hid hM2
        have hch : (caseF s M pt.k f [] q n).then (fun cs q2 n2 => if memW (cs.map Prod.fst) otherW then .ok (off, cs) q2 n2 else .bad 291 q2) = choiS s (fun p n => msgF s f (d + 1) kb [] p n) f pt.k o p n d := by rw [← hne2.out, HOFF.out, hM2]; rfl
        have HCH := Lib.hid hch
        have hno : caseF s M pt.k f [] q n ≠ .out := fun hc => hne (by rw [← hch, hc]; rfl)
        have HNO := Lib.hid hno
        have HNE := Lib.hid hne
        clear hM2 hch hno hne hne2 HR4 HP4 HH4 HK4
        generalize hRR : caseF s M pt.k f [] q n = RR at *
        have HRR := Lib.hid hRR
        clear hRR
        have HPX : Hid (∀ x ∈ [g, pb] ++ (Value.slice A hl.length cap).ownBlock.toList, B ≤ x) := fun x hx => by
          simp only [List.cons_append, List.nil_append, List.mem_cons] at hx
          rcases hx with h | h | h
          · omega
          · omega
          · exact HOX.out x (List.mem_cons_of_mem _ h)
        go_wp2
        go_loopw [6] (fun u6 wr => ∃ (fst : Bool) (cs : List CT) (qq nn ff : Nat) (vv cv : Value) (S : Nat → Prop), u6 = .bool fst ∧ Rr wr g s qq nn (d + 1) vv ∧ Hs B wr vv (hl ++ [kb]) ∧ Blk wr pb 47 (({ pt with off := off } : PT).cells cv).toArray ∧ OwnK (f + 1) S wr w.heap.size cv cs ∧
          (∀ b, S b → w.heap.size ≤ b ∧ b < wr.heap.size ∧ b ∉ vv.ownBlock.toList ∧ b ∉ cv.ownBlock.toList) ∧ (∀ b ∈ vv.ownBlock.toList, b ∈ (Value.slice A hl.length cap).ownBlock.toList ∨ w.heap.size ≤ b) ∧ Keep ([g, pb] ++ (Value.slice A hl.length cap).ownBlock.toList) w wr ∧ q ≤ qq ∧ qq ≤ s.size ∧ nn ≤ 1024 ∧ cs.length ≤ qq ∧
          (if fst = false ∧ byt s qq = 125 then .ok cs qq nn else caseF s M pt.k ff cs qq nn) = RR) (fun _ wr => s.size + 1 - rdrAt wr g)
        case atStart =>
          exact ⟨true, [], q, n, f, v2, .slice none 0 0, fun _ => False, rfl, HR5.out, HH5.out, HP5.out, OwnK.nil _ _ _ _, fun b h => h.elim, fun b hb => HO2.out b hb, HK5.out, Nat.le_refl _, hq2, hn, Nat.zero_le _, by rw [if_neg (by simp)]; exact HRR.out⟩
        case round =>
          obtain ⟨fst, cs, qq, nn, ff, vv, cv, S, rfl, hR6, hH6, hP6, hO6, hS6, hV6, hK6, hqq1, hqq2, hnn, hcl, hF6⟩ := hrel
          obtain ⟨c0, c1, c2, c3, c4, f1, f2, f3, f4⟩ := hR6.cells
          have b0 : wr.cell? ⟨pb, 0, none⟩ = some (.int .i64 pt.k) := hP6.cell_eq rfl
          have b6 : wr.cell? ⟨pb, 6, none⟩ = some cv := hP6.cell_eq rfl
          have HR6 := Lib.hid hR6
          have HH6 := Lib.hid hH6
          have HP6 := Lib.hid hP6
          have HO6 := Lib.hid hO6
          have HS6 := Lib.hid hS6
          have HV6 := Lib.hid hV6
          have HK6 := Lib.hid hK6
          have HF6 := Lib.hid hF6
          have HVG : Hid (∀ x ∈ vv.ownBlock.toList, x ≠ g ∧ x ≠ pb ∧ x ∉ cv.ownBlock.toList) := fun x hx => ⟨by rintro rfl; exact own_blk_ne hH6 hR6 (by decide) (by simpa using hx), by rintro rfl; exact own_blk_ne hH6 hP6 (by decide) (by simpa using hx), fun hc => by
            obtain ⟨us, _, how, _⟩ := hO6
            rcases how.2 with ⟨rfl, _⟩ | ⟨gc, cpc, cur, rfl, _, hgc, _⟩
            · simp [Value.ownBlock] at hc
            · simp [Value.ownBlock] at hc
              subst hc
              exact own_blk_ne (g := x) (t := 51) (cs := cur) hH6 hgc (by decide) (by simpa using hx)⟩
          have HCG : Hid (∀ x ∈ cv.ownBlock.toList, w.heap.size ≤ x ∧ x < wr.heap.size) := fun x hx => hO6.lt x hx
          have hws := hK6.size
          clear hR6 hH6 hP6 hO6 hS6 hV6 hK6 hF6 HR5 HP5 HH5 HK5 HRR
          have HSIGN : Hid (∀ (e : Int) (r : Nat), RR = .bad e r → choiS s (fun p n => msgF s f (d + 1) kb [] p n) f pt.k o p n d = .bad e r) := fun e r h => by
            rw [← HCH.out, h]; rfl
          have HBEL : Hid (∀ W, Keep ([g, pb] ++ (Value.slice A hl.length cap).ownBlock.toList) w W → Below B w W) := fun W hk => hk.below HPX.out HE.out.env.le
          have HON := Lib.hid (fun W (hRW : Rr W g s qq nn (d + 1) vv) => on_any W g s qq nn (d + 1) vv 125 hRW (by omega))
          by_cases hex : fst = false ∧ byt s qq = 125
          · obtain ⟨rfl, h125⟩ := hex
            have HFE : Hid (RR = .ok cs qq nn) := by have := HF6.out; rw [if_pos ⟨rfl, h125⟩] at this; exact this.symm
            have HO1 := Lib.hid (show (byt s qq == 125) = true by rw [h125]; rfl)
            clear h125 HF6
            go_wp2_with (go_at_call 68; refine (HON.out _ HR6.out).mono ?_; rintro x w7 ⟨rfl, k, rfl⟩; rw [HO1.out])
            obtain ⟨us, hus, how, hch⟩ := HO6.out
            have hrd : RdC (fun _ => True) (wr.drewN k) cv cs.length (caseC cs us) := (RdC.of_own (caseC_length cs us hus) how (fun _ _ => trivial)).keep (bs := []) ((Keep.refl _ _).drewN k) (by simp)
            have HHO := Lib.hid (hasOther_any (fun _ => True) cv cs us hus (wr.drewN k) hrd (by omega))
            clear hrd how hch hus
            cases hmo : memW (cs.map Prod.fst) otherW with
            | false =>
              rw [hmo] at HHO
              have HX : Hid (choiS s (fun p n => msgF s f (d + 1) kb [] p n) f pt.k o p n d = .bad 291 qq) := by unfold Hid; rw [← HCH.out, HFE.out]; simp only [RM.then]; rw [hmo]; rfl
              clear hmo
              refine HHO.out.mono ?_
              rintro x w8 ⟨rfl, hb8⟩
              have hR8 := (HR6.out.drewN k).below hb8 HR6.out.lt
              obtain ⟨e0, e1, e2, e3, e4, z1, z2, z3, z4⟩ := hR8.cells
              have HK8 := Lib.hid (HK6.out.drewN k |>.below_ge hb8 hws)
              clear hR8 hb8
              go_wp2_with (go_at_call 37; refine (rfail_any _ _ _ _).mono ?_; rintro x w9 ⟨rfl, rfl⟩)
              rw [HX.out]
              exact ⟨rfl, rfl, HBEL.out _ HK8.out⟩
            | true =>
              rw [hmo] at HHO
              have HX : Hid (choiS s (fun p n => msgF s f (d + 1) kb [] p n) f pt.k o p n d = .ok (off, cs) qq nn) := by unfold Hid; rw [← HCH.out, HFE.out]; simp only [RM.then]; rw [hmo]; rfl
              clear hmo
              refine HHO.out.mono ?_
              rintro x w8 ⟨rfl, hb8⟩
              have hR8 := (HR6.out.drewN k).below hb8 HR6.out.lt
              obtain ⟨gh, caph, rfl, hcaph, hcapm⟩ := Hs.snoc_form HH6.out HLD.out
              unfold maxLen at hcapm
              obtain ⟨e0, e1, e2, e3, e4, z1, z2, z3, z4⟩ := hR8.cells
              have HR8 := Lib.hid hR8
              have HK68 : Hid (Keep [] wr w8) := ((Keep.refl [] wr).drewN k).below_ge hb8 (Nat.le_refl _)
              clear hR8 hb8
              have s1 : IntKind.i64.wrap (((d + 1 : Nat) : Int) - 1) = (d : Int) := by rw [IntWalk.i64_in _ (by omega)]; omega
              have s1' : IntKind.i64.wrap ((d : Int) + 1 - 1) = (d : Int) := by rw [IntWalk.i64_in _ (by omega)]; omega
              have s2 : (0 : Int) ≤ (d : Int) := by omega
              have s3 : (d : Int) ≤ caph := by omega
              have s4 : d ≤ caph := by omega
              go_wp2_with fail
              go_region
              go_wp2_with fail
              go_end0
              rw [HX.out]
              have hk0 : Keep [g] wr ((w8.setCell ⟨g, 4, none⟩ (.slice (some ⟨gh, 0, none⟩) d caph)).setCell ⟨g, 3, none⟩ (.int .i64 d)).drew := (((HK68.out.mono (cs := [g]) (fun x hx => by cases hx)).setCell (p := ⟨g, 4, none⟩) (.inl (by simp)) _).setCell (p := ⟨g, 3, none⟩) (.inl (by simp)) _).drew
              have hcg : ∀ x ∈ cv.ownBlock.toList, x ≠ g := fun x hx => by have := (HCG.out x hx).1; omega
              refine ⟨rfl, cv, .slice (some ⟨gh, 0, none⟩) d caph, fun b => S b ∨ b ∈ cv.ownBlock.toList, HP6.out.keep hk0 (by have := HGP.out; simp; omega), ?_, ?_, Blk.drew (Blk.set_ (Blk.set_ HR8.out 4 _) 3 _), ?_, fun b hb => HV6.out b (by simpa [Value.ownBlock] using hb), ?_, by omega, hqq2, hnn⟩
              · refine ((HO6.out.keep hk0 (fun x hx hc => ?_) (fun x hx hc => ?_)).lies (fun x hx => .inl hx) (fun x hx => .inr hx))
                · simp at hx; subst hx; have := (HS6.out x hc).1; omega
                · simp at hc; exact hcg x hx hc
              · have hz := hk0.size
                intro b hb
                rcases hb with hb | hb
                · obtain ⟨h1, h2, h3, _⟩ := HS6.out b hb
                  exact ⟨h1, Nat.lt_of_lt_of_le h2 hz, by simpa [Value.ownBlock] using h3⟩
                · obtain ⟨h1, h2⟩ := HCG.out b hb
                  refine ⟨h1, Nat.lt_of_lt_of_le h2 hz, fun hc => ?_⟩
                  exact (HVG.out b (by simpa [Value.ownBlock] using hc)).2.2 hb
              · exact (Hs.pop HH6.out HLD.out).keep hk0 (fun x hx hc => by simp at hc; exact (HVG.out x (by simpa [Value.ownBlock] using hx)).1 hc)
              · exact HK6.out.same (hk0.mono (fun x hx => .inl (by simp at hx; simp [hx])))
          · have HFE : Hid (caseF s M pt.k ff cs qq nn = RR) := by have := HF6.out; rw [if_neg hex] at this; exact this
            have hO1 : Hid (fst = false → (byt s qq == 125) = false) := fun h => by simp; exact fun hc => hex ⟨h, hc⟩
            obtain ⟨ff, rfl⟩ : ∃ ff', ff = ff' + 1 := by
              cases ff with
              | zero => exact absurd HFE.out.symm HNO.out
              | succ k => exact ⟨k, rfl⟩
            have HF7 : Hid ((keyS s pt.k qq).thenM (fun key p1 => if memW (cs.map Prod.fst) key then .bad 292 qq else (signS s 123 p1).thenM fun _ p2 => (M p2 nn).then fun l p3 n3 => if p3 = s.size then .bad 290 p3 else if byt s (skip s (p3 + 1)) = 125 then .ok (cs ++ [(key, l)]) (skip s (p3 + 1)) n3 else caseF s M pt.k ff (cs ++ [(key, l)]) (skip s (p3 + 1)) n3) = RR) := HFE.out
            clear HFE HF6 hex
            go_upto_region 11 with fail
            go_cut [79] (fun u W => u = .bool true ∧ ∃ k, W = wr.drewN k)
            case first =>
              cases fst with
              | true =>
                go_wp2_with fail
                go_meet
                exact ⟨rfl, 0, rfl⟩
              | false =>
                have hO2 : Hid ((byt s qq == 125) = false) := hO1.out rfl
                go_wp2_with (go_at_call 68; refine (HON.out _ HR6.out).mono ?_; rintro x w7 ⟨rfl, k, rfl⟩; rw [hO2.out])
                go_meet
                exact ⟨rfl, _, rfl⟩
            case rest =>
              obtain ⟨rfl, k7, hw7⟩ := hcut
              have hKr : Keep [] wr wc := by rw [hw7]; exact (Keep.refl _ _).drewN _
              have hR7 := HR6.out.keep hKr (by simp)
              have hP7 := HP6.out.keep hKr (by simp)
              clear hw7 c0 c1 c2 c3 c4 f1 f2 f3 f4 b0 b6
              obtain ⟨c0, c1, c2, c3, c4, f1, f2, f3, f4⟩ := hR7.cells
              have b0 : wc.cell? ⟨pb, 0, none⟩ = some (.int .i64 pt.k) := hP7.cell_eq rfl
              have HR7 := Lib.hid hR7
              have HKr := Lib.hid hKr
              have HK7 := Lib.hid (HK6.out.nil hKr)
              clear hR7 hP7 hKr
              have HKEY := Lib.hid (key_any (B := B) wc g s pt.k qq nn (d + 1) vv (HE.out.below (HBEL.out _ HK7.out)) hBg HR7.out hqq2 hs)
              cases hkey : keyS s pt.k qq with
              | out =>
                have := HF7.out
                rw [hkey] at this
                exact absurd this.symm HNO.out
              | bad e r =>
                rw [hkey] at HKEY
                have HX := Lib.hid (HSIGN.out e r (by rw [← HF7.out, hkey]; rfl))
                clear hkey
                go_wp2_with (go_at_call 141; refine HKEY.out.mono ?_; rintro x w8 ⟨rfl, hk8⟩)
                rw [HX.out]
                exact ⟨rfl, rfl, HBEL.out _ (HK7.out.same (hk8.mono (fun x hx => .inl (by simp at hx; simp [hx]))))⟩
              | ok key p1 =>
                have hkp := keyS_ge hkey
                rw [hkey] at HKEY HF7
                have HF8 : Hid ((if memW (cs.map Prod.fst) key then .bad 292 qq else (signS s 123 p1).thenM fun _ p2 => (M p2 nn).then fun l p3 n3 => if p3 = s.size then .bad 290 p3 else if byt s (skip s (p3 + 1)) = 125 then .ok (cs ++ [(key, l)]) (skip s (p3 + 1)) n3 else caseF s M pt.k ff (cs ++ [(key, l)]) (skip s (p3 + 1)) n3) = RR) := HF7.out
                clear hkey HF7
                go_wp2_with fail
                refine HKEY.out.mono ?_
                rintro x w8 ⟨rfl, hR8, hk8⟩
                have hk8r : Keep [g] wr w8 := (HKr.out.mono (cs := [g]) (fun x hx => by cases hx)).same hk8
                have hP8 := HP6.out.keep hk8r (by have := HGP.out; simp; omega)
                have b6 : w8.cell? ⟨pb, 6, none⟩ = some cv := hP8.cell_eq rfl
                have hcg : ∀ x ∈ cv.ownBlock.toList, x ≠ g := fun x hx => by have := (HCG.out x hx).1; omega
                have HCGG := Lib.hid hcg
                have HO8 := Lib.hid (HO6.out.keep hk8r (fun x hx hc => by simp at hx; subst hx; have := (HS6.out x hc).1; omega) (fun x hx hc => by simp at hc; exact hcg x hx hc))
                obtain ⟨us, hus, how, hch⟩ := HO8.out
                have hrd : RdC (fun _ => True) (w8.alloc (.cells #[.string key] 9)) cv cs.length (caseC cs us) := (RdC.of_own (caseC_length cs us hus) how (fun _ _ => trivial)).keep (bs := []) ((Keep.refl _ _).alloc _) (by simp)
                have hkc : (w8.alloc (.cells #[.string key] 9)).cell? ⟨w8.heap.size, 0, none⟩ = some (.string key) := (Blk.new w8 9 #[.string key]).cell_eq rfl
                have HHK := Lib.hid (hasKey_any (fun _ => True) cv cs us hus key w8.heap.size (w8.alloc (.cells #[.string key] 9)) (by simp) hkc hrd (by omega))
                have hz8 := hk8r.size
                have HR8 := Lib.hid hR8
                have HP8 := Lib.hid hP8
                have HK8 := Lib.hid (HK6.out.same (hk8r.mono (fun x hx => .inl (by simp at hx; simp [hx]))))
                have HK8r := Lib.hid hk8r
                clear hR8 hk8 hk8r hP8 hcg how hch hus hrd hkc c0 c1 c2 c3 c4 f1 f2 f3 f4 b0
                have hpb8 : pb < w8.heap.size := HP8.out.lt
                have hgb8 : g < w8.heap.size := HR8.out.lt
                have HA8 := Lib.hid (Blk.new w8 9 #[.string key])
                cases hmk : memW (cs.map Prod.fst) key with
                | true =>
                  rw [hmk] at HHK
                  have HX := Lib.hid (HSIGN.out 292 qq (by rw [← HF8.out, hmk]; rfl))
                  clear hmk
                  go_wp2_with (first | (go_at_call 78; refine HHK.out.mono ?_; rintro x w10 ⟨rfl, hb10⟩) | (go_at_call 37; refine (rfail_any _ _ _ _).mono ?_; rintro x w9 ⟨rfl, rfl⟩))
                  rw [HX.out]
                  exact ⟨rfl, rfl, HBEL.out _ ((HK8.out.alloc _).below_ge hb10 (by simp; omega))⟩
                | false =>
                  rw [hmk] at HHK
                  have HF9 : Hid (((signS s 123 p1).thenM fun _ p2 => (M p2 nn).then fun l p3 n3 => if p3 = s.size then .bad 290 p3 else if byt s (skip s (p3 + 1)) = 125 then .ok (cs ++ [(key, l)]) (skip s (p3 + 1)) n3 else caseF s M pt.k ff (cs ++ [(key, l)]) (skip s (p3 + 1)) n3) = RR) := by have := HF8.out; rw [hmk] at this; exact this
                  have HMK := Lib.hid hmk
                  clear hmk HF8
                  go_wp2_with (go_at_call 78; refine HHK.out.mono ?_; rintro x w10 ⟨rfl, hb10⟩)
                  have hk10r : Keep [g] wr w10 := (HK8r.out.alloc _).below_ge hb10 (by simp; omega)
                  have hR10 : Rr w10 g s p1 nn (d + 1) vv := (Blk.alloc HR8.out _).below hb10 (by simp; omega)
                  have hA10 : Blk w10 w8.heap.size 9 #[.string key] := HA8.out.below hb10 (by simp)
                  have hz10 : w8.heap.size < w10.heap.size := by have := hb10.size; simp at this; omega
                  have HR10 := Lib.hid hR10
                  have HA10 := Lib.hid hA10
                  have HK10r := Lib.hid hk10r
                  have HSG := Lib.hid (sign_any w10 g s p1 nn (d + 1) vv 123 hR10 hkp.2 (by omega) (by omega))
                  clear hR10 hA10 hk10r hb10 HHK b6
                  cases hsg : signS s 123 p1 with
                  | out => exact absurd hsg (signS_out _ _ _)
                  | bad e r =>
                    rw [hsg] at HSG
                    have HX := Lib.hid (HSIGN.out e r (by rw [← HF9.out, hsg]; rfl))
                    clear hsg
                    refine HSG.out.mono ?_
                    rintro x w11 ⟨rfl, hk11⟩
                    go_wp2_with fail
                    rw [HX.out]
                    exact ⟨rfl, rfl, HBEL.out _ (HK6.out.same ((HK10r.out.same hk11).mono (fun x hx => .inl (by simp at hx; simp [hx]))))⟩
                  | ok u p2 =>
                    have hsp := signS_ge (by omega) hsg
                    rw [hsg] at HSG HF9
                    have HF10 : Hid (((M p2 nn).then fun l p3 n3 => if p3 = s.size then .bad 290 p3 else if byt s (skip s (p3 + 1)) = 125 then .ok (cs ++ [(key, l)]) (skip s (p3 + 1)) n3 else caseF s M pt.k ff (cs ++ [(key, l)]) (skip s (p3 + 1)) n3) = RR) := HF9.out
                    clear hsg HF9
                    refine HSG.out.mono ?_
                    rintro x w11 ⟨rfl, hR11, hk11⟩
                    have hk11r := HK10r.out.same hk11
                    have hA11 := HA10.out.keep hk11 (by simp; omega)
                    have hH11 := HH6.out.keep hk11r (fun x hx hc => by simp at hc; exact (HVG.out x hx).1 hc)
                    have NKB : Hid (w8.heap.size ∉ g :: vv.ownBlock.toList) := fun hx => by
                      rcases List.mem_cons.1 hx with h | h
                      · omega
                      · exact own_blk_ne hH11 hA11 (by decide) (by simpa using h)
                    have NKC : Hid (w11.heap.size ∉ g :: vv.ownBlock.toList) := fun hx => by
                      rcases List.mem_cons.1 hx with h | h
                      · have := hR11.lt; omega
                      · have := (World.ownsRow.lt hH11 w11.heap.size (by simpa using h)).2; omega
                    have HH11 := Lib.hid hH11
                    have hmo : M p2 nn ≠ .out := fun hc => HNO.out (by rw [← HF10.out, hc]; rfl)
                    have hmm : msgF s f (d + 1) (topB (hl ++ [kb])) [] p2 nn = M p2 nn := by rw [HM2.out, topB_snoc]
                    have HMSG : Hid (∀ W, Keep [] w11 W → Calls Tryz.prog 36 #[.pointer (some ⟨g, 0, none⟩)] W (MPost f W B g s p2 (d + 1) vv (hl ++ [kb]) (msgF s f (d + 1) (topB (hl ++ [kb])) [] p2 nn))) := fun W hW =>
                      hM W B g p2 nn (d + 1) vv (hl ++ [kb]) (HE.out.below (HBEL.out _ ((HK6.out.same (hk11r.mono (fun x hx => .inl (by simp at hx; simp [hx])))).nil hW))) hBg (hR11.keep hW (by simp)) (hH11.keep hW (by simp)) hsp.2 hnn (by omega) (by simp [HLD.out]) (by rw [hmm]; exact hmo)
                    rw [hmm] at HMSG
                    have a0 : w11.cell? ⟨w8.heap.size, 0, none⟩ = some (.string key) := hA11.cell_eq rfl
                    have HR11 := Lib.hid hR11
                    have HK11r := Lib.hid hk11r
                    have HA11 := Lib.hid hA11
                    have hz11 : w8.heap.size < w11.heap.size := HA11.out.lt
                    clear hR11 hk11 hk11r hA11 hH11 hmm HSG
                    cases hmr : M p2 nn with
                    | out => exact absurd hmr hmo
                    | bad e r =>
                      rw [hmr] at HMSG
                      have HX := Lib.hid (HSIGN.out e r (by rw [← HF10.out, hmr]; rfl))
                      have hB11 : Below B w w11 := HBEL.out _ (HK6.out.same (HK11r.out.mono (fun x hx => .inl (by simp at hx; simp [hx]))))
                      have HMSG2 : Hid (∀ W, Keep [] w11 W → Calls Tryz.prog 36 #[.pointer (some ⟨g, 0, none⟩)] W fun x w' => (x = .returned (.slice none 0 0) ∧ Hid False) ∨ (x = Stop e r ∧ Below B w w')) := fun W hW => (HMSG.out W hW).mono fun x w' hx => .inr ⟨hx.1, (hB11.trans (hW.below (by simp) (by omega))).trans hx.2⟩
                      clear hmr hmo HF10 hB11 HMSG
                      go_upto_region 18 with fail
                      refine Code.wp_mono (Q := OnlyP (fun c W => c = [{ v := .iface 59 (.agg #[.int .i64 e, .int .i64 r]), recovered := false }] ∧ Below B w W)) ?_ ?_
                      · rintro x a W hx
                        obtain ⟨c, rfl, hdf, rfl, hb⟩ := OnlyP.cases hx
                        go_wp2
                        rw [HX.out]
                        exact ⟨hdf, rfl, hb⟩
                      go_region_held2 (fun W => W.cell? ⟨w8.heap.size, 0, none⟩ = some (.string key)) (first | go_keep | exact a0 | exact HF.out.elim) (first | (go_at_call 36; refine (HMSG2.out _ (by repeat (first | exact Keep.refl _ _ | refine Keep.drew ?_ | refine Keep.alloc ?_ _))).mono ?_; rintro x w12 (⟨rfl, HF⟩ | ⟨rfl, hb12⟩); rotate_left; (exact ⟨rfl, rfl, hb12⟩); have a1 : w12.cell? ⟨w8.heap.size, 0, none⟩ = some (.string key) := HF.out.elim; have x0 : w12.frozen? ⟨w11.heap.size, 0, none⟩ = false := HF.out.elim; have x1 : w12.frozen? ⟨w11.heap.size, 1, none⟩ = false := HF.out.elim; have y0 : w12.cell? ⟨w11.heap.size, 0, none⟩ = some (.string ⟨#[]⟩) := HF.out.elim; have y1 : w12.cell? ⟨w11.heap.size, 1, none⟩ = some (.slice none 0 0) := HF.out.elim; have hzk : w8.heap.size < w12.heap.size := HF.out.elim))
                      all_goals exact HF.out.elim
                    | ok l p3 n3 =>
                      rw [hmr] at HMSG HF10
                      have HF11 : Hid ((if p3 = s.size then .bad 290 p3 else if byt s (skip s (p3 + 1)) = 125 then .ok (cs ++ [(key, l)]) (skip s (p3 + 1)) n3 else caseF s M pt.k ff (cs ++ [(key, l)]) (skip s (p3 + 1)) n3) = RR) := HF10.out
                      clear hmr hmo HF10
                      go_upto_region 18 with fail
                      go_cut [9] (fun u W => ∃ (cbk : Nat) (u12 v12 : Value) (S12 : Nat → Prop), u = .pointer (some ⟨cbk, 0, none⟩) ∧ Blk W cbk 51 #[.string key, u12] ∧ Lies (f + 1) S12 W u12 l ∧ (∀ b, S12 b → w11.heap.size ≤ b ∧ b < W.heap.size ∧ b ∉ v12.ownBlock.toList ∧ b ≠ cbk) ∧ Rr W g s p3 n3 (d + 1) v12 ∧ Hs B W v12 (hl ++ [kb]) ∧
                        (∀ b ∈ v12.ownBlock.toList, b ∈ vv.ownBlock.toList ∨ w11.heap.size ≤ b) ∧ Keep (g :: vv.ownBlock.toList) w11 W ∧ p2 ≤ p3 ∧ p3 ≤ s.size ∧ n3 ≤ 1024 ∧ w11.heap.size ≤ cbk)
                      case first =>
                        go_region_held3 (fun W => W.cell? ⟨w8.heap.size, 0, none⟩ = some (.string key)) (first | go_keep | exact a0 | exact a1 | exact (Blk.far (Blk.far hkb12 (by simp; omega) _) (by simp; omega) _).cell_eq rfl) (first | (go_at_call 36; refine (HMSG.out _ (by repeat (first | exact Keep.refl _ _ | refine Keep.drew ?_ | refine Keep.alloc ?_ _))).mono ?_; rintro x w12 ⟨u12, v12, S12, rfl, hL12, hS12, hR12, hH12, hV12, hK12, hp3a, hp3b, hn3⟩; obtain ⟨A12, m12, cap12, rfl⟩ := hL12.form; have hkb12 : Blk w12 w8.heap.size 9 #[.string key] := ((HA11.out.keep (bs := []) (by repeat (first | exact Keep.refl _ _ | refine Keep.drew ?_ | refine Keep.alloc ?_ _)) (by simp)).keep hK12 NKB.out); have a1 : w12.cell? ⟨w8.heap.size, 0, none⟩ = some (.string key) := hkb12.cell_eq rfl; have hzk : w8.heap.size < w12.heap.size := (by have := hK12.size; simp at this; omega); first | (obtain ⟨hbx, x0, x1, y0, y1⟩ := caseBox hK12 NKC.out; have HBX := Lib.hid hbx) | skip))
                        all_goals
                          go_wp2_with fail
                          go_meet
                        · refine ⟨w12.heap.size, .slice A12 m12 cap12, v12, S12, rfl, Blk.new _ _ _, hL12.keep (bs := []) ((Keep.refl _ _).alloc _) (by simp), fun b hb => ?_, Blk.alloc hR12 _, hH12.keep (bs := []) ((Keep.refl _ _).alloc _) (by simp), hV12, ((Keep.refl _ w11).drew.same hK12).alloc _, hp3a, hp3b, hn3, ?_⟩
                          · obtain ⟨h1, h2, h3⟩ := hS12 b hb
                            simp at h1
                            exact ⟨h1, by simp; omega, h3, by omega⟩
                          · have := hK12.size
                            simpa using this
                        · have hkx : Keep [w11.heap.size] w12 ((w12.setCell ⟨w11.heap.size, 0, none⟩ (.string key)).setCell ⟨w11.heap.size, 1, none⟩ (.slice A12 m12 cap12)) := ((Keep.refl _ _).setCell (p := ⟨w11.heap.size, 0, none⟩) (.inl (by simp)) _).setCell (p := ⟨w11.heap.size, 1, none⟩) (.inl (by simp)) _
                          have hbc : w11.heap.size ∉ v12.ownBlock.toList := fun hx => own_blk_ne hH12 HBX.out (by decide) (by simpa using hx)
                          refine ⟨w11.heap.size, .slice A12 m12 cap12, v12, S12, rfl, Blk.set_ (Blk.set_ HBX.out 0 _) 1 _, hL12.keep hkx (fun x hx hc => ?_), fun b hb => ?_, hR12.keep hkx (by have := HR11.out.lt; simp; omega), hH12.keep hkx (fun x hx hc => by simp at hc; subst hc; exact hbc hx), fun b hb => ?_, ?_, hp3a, hp3b, hn3, Nat.le_refl _⟩
                          · simp at hx
                            subst hx
                            have := (hS12 _ hc).1
                            simp at this
                            omega
                          · obtain ⟨h1, h2, h3⟩ := hS12 b hb
                            simp at h1
                            exact ⟨by omega, by simpa [World.setCell] using h2, h3, by omega⟩
                          · rcases hV12 b hb with h | h
                            · exact .inl h
                            · simp at h
                              exact .inr (by omega)
                          · exact ((((Keep.refl (g :: vv.ownBlock.toList) w11).alloc _).drew.same hK12).setCell (p := ⟨w11.heap.size, 0, none⟩) (.inr (Nat.le_refl _)) _).setCell (p := ⟨w11.heap.size, 1, none⟩) (.inr (Nat.le_refl _)) _
                      case rest =>
                        obtain ⟨cbk, u12, v12, S12, rfl, hC12, hL12, hS12, hR12, hH12, hV12, hK12, hp3a, hp3b, hn3, hcb⟩ := hcut
                        by_cases hp3 : p3 = s.size
                        · have HX := Lib.hid (HSIGN.out 290 p3 (by rw [← HF11.out, if_pos hp3]))
                          have e3 : ((p3 : Int) == (s.size : Int)) = true := by simp; omega
                          have e4 : (p3 == s.size) = true := by simpa using hp3
                          obtain ⟨c0, c1, c2, c3, c4, f1, f2, f3, f4⟩ := hR12.cells
                          have HK12 := Lib.hid (HK6.out.trans ((HK11r.out.mono (cs := g :: vv.ownBlock.toList) (fun x hx => .inl (by simp at hx; simp [hx]))).same hK12) (fun x hx => by
                            rcases List.mem_cons.1 hx with h | h
                            · exact .inl (by simp [h])
                            · rcases HV6.out x h with h | h
                              · exact .inl (by simp at h ⊢; exact .inr (.inr h))
                              · exact .inr h))
                          clear hC12 hL12 hS12 hR12 hH12 hV12 hK12 HF11 hp3
                          go_wp2_with fail
                          go_quiet (fail)
                          go_wp2_with (go_at_call 37; refine (rfail_any _ _ _ _).mono ?_; rintro x w13 ⟨rfl, rfl⟩)
                          rw [HX.out]
                          exact ⟨rfl, rfl, HBEL.out _ (HK12.out.drewN _)⟩
                        have hp3' : p3 < s.size := by omega
                        have HF12 : Hid ((if byt s (skip s (p3 + 1)) = 125 then .ok (cs ++ [(key, l)]) (skip s (p3 + 1)) n3 else caseF s M pt.k ff (cs ++ [(key, l)]) (skip s (p3 + 1)) n3) = RR) := by have := HF11.out; rw [if_neg hp3] at this; exact this
                        have e3 : ((p3 : Int) == (s.size : Int)) = false := by simp; omega
                        have e4 : (p3 == s.size) = false := by simpa using hp3
                        obtain ⟨c0, c1, c2, c3, c4, f1, f2, f3, f4⟩ := hR12.cells
                        have hkw : Keep (g :: vv.ownBlock.toList) wr wc := (HK11r.out.mono (fun x hx => .inl (by simp at hx; simp [hx]))).same hK12
                        have hnp : pb ∉ g :: vv.ownBlock.toList := fun hx => by
                          rcases List.mem_cons.1 hx with h | h
                          · exact HGP.out h.symm
                          · exact (HVG.out pb h).2.1 rfl
                        have hP12 := HP6.out.keep hkw hnp
                        have hO12 := HO6.out.keep hkw (fun x hx hc => by
                          rcases List.mem_cons.1 hx with h | h
                          · subst h; have := (HS6.out x hc).1; omega
                          · exact (HS6.out x hc).2.2.1 h) (fun x hx hc => by
                          rcases List.mem_cons.1 hc with h | h
                          · exact HCGG.out x hx h
                          · exact (HVG.out x h).2.2 hx)
                        have hcp : cbk ≠ pb := Blk.ne_ hC12 hP12 (by decide)
                        have hcg2 : cbk ≠ g := Blk.ne_ hC12 hR12 (by decide)
                        have HC12 := Lib.hid hC12
                        have HL12 := Lib.hid hL12
                        have HS12 := Lib.hid hS12
                        have HR12 := Lib.hid hR12
                        have HH12 := Lib.hid hH12
                        have HV12 := Lib.hid hV12
                        have HKW := Lib.hid hkw
                        have HP12 := Lib.hid hP12
                        have HO12 := Lib.hid hO12
                        have hzw := hkw.size
                        have hz11r : wr.heap.size ≤ w11.heap.size := HK11r.out.size
                        clear hC12 hL12 hS12 hR12 hH12 hV12 hK12 hkw hP12 hO12 HF11 hp3 hnp
                        go_wp2_with fail
                        go_quiet (fail)
                        go_upto_region 22 with fail
                        generalize hWW : World.setCell (World.drewN wc _) ⟨g, 1, none⟩ (.int .i64 ((p3 : Int) + 1)) = W1
                        have hR13 : Rr W1 g s (p3 + 1) n3 (d + 1) v12 := by rw [← hWW]; exact (HR12.out.drewN _).setAt (p3 + 1) _ (by omega)
                        have hK13 : Keep [g] wc W1 := by rw [← hWW]; exact ((Keep.refl _ _).drewN _).setCell (.inl (by simp)) _
                        clear hWW c0 c1 c2 c3 c4 f1 f2 f3 f4
                        have hgv12 : ∀ x ∈ v12.ownBlock.toList, x ≠ g := fun x hx => by rintro rfl; exact own_blk_ne HH12.out HR12.out (by decide) (by simpa using hx)
                        have hP13 := HP12.out.keep hK13 (by have := HGP.out; simp; omega)
                        have hC13 := HC12.out.keep hK13 (by simpa using hcg2)
                        have hH13 := HH12.out.keep hK13 (fun x hx hc => by simp at hc; exact hgv12 x hx hc)
                        have hO13 := HO12.out.keep hK13 (fun x hx hc => by simp at hx; subst hx; have := (HS6.out x hc).1; omega) (fun x hx hc => by simp at hc; exact HCGG.out x hx hc)
                        have hL13 := HL12.out.keep hK13 (fun x hx hc => by simp at hx; subst hx; have := (HS12.out x hc).1; have := HR11.out.lt; omega)
                        obtain ⟨A12, m12, k12, rfl⟩ := hL13.form
                        obtain ⟨us, hus, how, hch⟩ := hO13
                        have q6 : W1.cell? ⟨pb, 6, none⟩ = some cv := hP13.cell_eq rfl
                        have q0' : W1.cell? ⟨cbk, 0, none⟩ = some (.string key) := hC13.cell_eq rfl
                        have q1' : W1.cell? ⟨cbk, 1, none⟩ = some (.slice A12 m12 k12) := hC13.cell_eq rfl
                        have hgC : cbk < W1.heap.size := hC13.lt
                        have hgP : pb < W1.heap.size := hP13.lt
                        have hBW : w.heap.size ≤ W1.heap.size := by have := hK13.size; omega
                        have hpo2 : some pb ≠ cv.ownBlock := fun hc => by have := (HCG.out pb (by rw [← hc]; simp)).1; omega
                        have HR13 := Lib.hid hR13
                        have HP13 := Lib.hid hP13
                        have HC13 := Lib.hid hC13
                        have HH13 := Lib.hid hH13
                        have HL13 := Lib.hid hL13
                        have HOW13 := Lib.hid how
                        have HCH13 := Lib.hid hch
                        have HUS := Lib.hid hus
                        have HK13 := Lib.hid hK13
                        obtain ⟨ic, hic, ic0, ic1, ic2⟩ := info_parts infoCase
                        have HIC := Lib.hid hic
                        have HIC0 := Lib.hid ic0
                        have HIC1 := Lib.hid ic1
                        have HIC2 := Lib.hid ic2
                        have hcl2 : cs.length ≤ 1000000000 := by omega
                        clear hR13 hP13 hC13 hH13 hL13 how hch hus hK13 hgv12 hic ic0 ic1 ic2
                        generalize hcn : cs.length = cn at *
                        have HCN := Lib.hid hcn
                        clear hcn
                        go_cut [] (fun W => ∃ cv2, Rr W g s (p3 + 1) n3 (d + 1) v12 ∧ Blk W pb 47 (({ pt with off := off } : PT).cells cv2).toArray ∧ OwnK (f + 1) (fun b => S b ∨ S12 b) W w.heap.size cv2 (cs ++ [(key, l)]) ∧ (∀ b ∈ cv2.ownBlock.toList, b ∈ cv.ownBlock.toList ∨ W1.heap.size ≤ b) ∧ Keep (pb :: cv.ownBlock.toList) W1 W)
                        case first =>
                          go_region_law (first | (refine step_append_lies _ (by rfl) _ _ _ (by rfl) w.heap.size 51 ic _ 2 40 Tryz.underlying45 HIC.out HIC0.out HIC1.out HIC2.out rfl (by omega) cv cn (caseC cs us) (by rfl) ((World.ownsRow.alloc HOW13.out _).drew) ⟨W1.heap.size, 0, none⟩ 1 1 [.string key, .slice A12 m12 k12] (by rfl) (by rfl) (World.news_of_block (cs := #[.string key, .slice A12 m12 k12]) (t := 51) (fr := (0, 0)) (heap_alloc_new W1 _)) (by simp [Value.oneCell']) (by omega) (by unfold maxLen; omega) (by omega) (by simp; omega) (W1.heap.size + 1) (by simp) ?_; intro gg cap2 w14 hown14 hgrow hat hlt; have hP14 : Blk w14 pb 47 (({ pt with off := off } : PT).cells cv).toArray := Blk.grown (Blk.drew (Blk.alloc HP13.out _)) hgrow hpo2; have r6 : w14.cell? ⟨pb, 6, none⟩ = some cv := hP14.cell_eq rfl; have rz := hP14.frozen 6; have HP14 := Lib.hid hP14; clear hP14))
                          all_goals
                            go_wp2_with fail
                            go_meet
                            have hk14 : Keep cv.ownBlock.toList W1 w14 := (((Keep.refl _ W1).alloc _).drew).grown hgrow fun k hk => .inl (by simpa using hk)
                            have hpg : pb ≠ gg := by
                              intro hc
                              subst hc
                              rcases hat with h | h
                              · exact hpo2 h.symm
                              · omega
                            have hks : Keep [pb] w14 (w14.setCell ⟨pb, 6, none⟩ (.slice (some ⟨gg, 0, none⟩) (cn + 1) cap2)) := (Keep.refl _ _).setCell (.inl (by simp)) _
                            refine ⟨.slice (some ⟨gg, 0, none⟩) (cn + 1) cap2, (HR13.out.keep hk14 (fun hc => HCGG.out g hc rfl)).keep hks (by have := HGP.out; simpa using this), Blk.set_ HP14.out 6 _, OwnK.more (us := us) (pv := .slice A12 m12 k12) (c := (key, l)) (by rw [HUS.out, HCN.out]) ?_ (fun j c pv hj hq => ?_) ?_, fun b hb => ?_, ?_⟩
                            · rw [HCN.out]
                              exact ownsRow_keep hown14 hks (fun x hx hc => by simp [Value.ownBlock] at hx hc; omega)
                            · refine ((HCH13.out j c pv hj hq).keep hk14 (fun x hx hc => (HS6.out x hc).2.2.2 hx)).keep hks (fun x hx hc => ?_)
                              simp at hx
                              subst hx
                              have := (HS6.out x hc).1
                              omega
                            · refine (HL13.out.keep hk14 (fun x hx hc => ?_)).keep hks (fun x hx hc => ?_)
                              · have h1 := (HCG.out x hx).2
                                have h2 := (HS12.out x hc).1
                                omega
                              · simp at hx
                                subst hx
                                have h2 := (HS12.out x hc).1
                                omega
                            · simp [Value.ownBlock] at hb
                              subst hb
                              rcases hat with h | h
                              · exact .inl (by simp [h])
                              · exact .inr (by omega)
                            · exact (hk14.mono (fun x hx => .inl (List.mem_cons_of_mem _ hx))).same (hks.mono (fun x hx => .inl (by simp at hx; simp [hx])))
                        case rest =>
                          obtain ⟨cv2, hR15, hP15, hO15, hV15, hK15⟩ := hcut
                          have hz15 := hK15.size
                          have hz13 := HK13.out.size
                          have hgo15 : ∀ x ∈ v12.ownBlock.toList, x ≠ g := fun x hx => by rintro rfl; exact own_blk_ne HH13.out HR13.out (by decide) (by simpa using hx)
                          have hpo15 : ∀ x ∈ v12.ownBlock.toList, x ≠ pb := fun x hx => by rintro rfl; exact own_blk_ne HH13.out HP13.out (by decide) (by simpa using hx)
                          have hcv15 : ∀ x ∈ v12.ownBlock.toList, x ∉ cv.ownBlock.toList := fun x hx hc => by
                            rcases HV12.out x hx with h | h
                            · exact (HVG.out x h).2.2 hc
                            · have := (HCG.out x hc).2; omega
                          have hH15 := HH13.out.keep hK15 (fun x hx hc => by
                            rcases List.mem_cons.1 hc with h | h
                            · exact hpo15 x hx h
                            · exact hcv15 x hx h)
                          have HR15 := Lib.hid hR15
                          have HP15 := Lib.hid hP15
                          have HO15 := Lib.hid hO15
                          have HV15 := Lib.hid hV15
                          have HK15 := Lib.hid hK15
                          have HH15 := Lib.hid hH15
                          have HG15 := Lib.hid hgo15
                          clear hR15 hP15 hO15 hV15 hK15 hH15 q6 q0' q1'
                          have hsk := skip_ge s (p3 + 1)
                          have hsk2 := skip_le s (p3 + 1) (by omega)
                          have hqp1 := hkp.1
                          have hqp2 := hsp.1
                          have HBL := Lib.hid (blanks_any wc g s (p3 + 1) n3 (d + 1) v12 HR15.out (by omega) (by omega))
                          go_wp2_with (go_at_call 95; refine HBL.out.mono ?_; rintro x w16 ⟨rfl, hR16, hk16⟩)
                          have hz16 := hk16.size
                          go_roundw
                          case rel =>
                            refine ⟨false, cs ++ [(key, l)], skip s (p3 + 1), n3, ff, v12, cv2, fun b => S b ∨ S12 b, rfl, hR16, HH15.out.keep hk16 (fun x hx hc => by simp at hc; exact HG15.out x hx hc), HP15.out.keep hk16 (by have := HGP.out; simp; omega), HO15.out.keep hk16 (fun x hx hc => ?_) (fun x hx hc => ?_), fun b hb => ?_, fun b hb => ?_, ?_, by omega, hsk2, hn3, by rw [List.length_append, HCN.out]; simp; omega, ?_⟩
                            · simp at hx
                              subst hx
                              rcases hc with h | h
                              · have := (HS6.out x h).1; omega
                              · have := (HS12.out x h).1; omega
                            · simp at hc
                              subst hc
                              rcases HV15.out x hx with h | h
                              · exact HCGG.out x h rfl
                              · omega
                            · rcases hb with hb | hb
                              · obtain ⟨h1, h2, h3, h4⟩ := HS6.out b hb
                                refine ⟨h1, by omega, fun hc => ?_, fun hc => ?_⟩
                                · rcases HV12.out b hc with h | h
                                  · exact h3 h
                                  · omega
                                · rcases HV15.out b hc with h | h
                                  · exact h4 h
                                  · omega
                              · obtain ⟨h1, h2, h3, h4⟩ := HS12.out b hb
                                refine ⟨by omega, by omega, h3, fun hc => ?_⟩
                                rcases HV15.out b hc with h | h
                                · have := (HCG.out b h).2; omega
                                · omega
                            · rcases HV12.out b hb with h | h
                              · exact HV6.out b h
                              · exact .inr (by omega)
                            · refine (((HK6.out.trans HKW.out (fun x hx => ?_)).same (HK13.out.mono (fun x hx => .inl (by simp at hx; simp [hx])))).trans HK15.out (fun x hx => ?_)).same (hk16.mono (fun x hx => .inl (by simp at hx; simp [hx])))
                              · rcases List.mem_cons.1 hx with h | h
                                · exact .inl (by simp [h])
                                · rcases HV6.out x h with h | h
                                  · exact .inl (by simp at h ⊢; exact .inr (.inr h))
                                  · exact .inr h
                              · rcases List.mem_cons.1 hx with h | h
                                · exact .inl (by simp [h])
                                · exact .inr (HCG.out x h).1
                            · have := HF12.out
                              simpa using this
                          case measure => rw [HR6.out.at_, hR16.at_]; omega
end Go.Proofs.YtjldgcpmdcoejaaGreatDoor

namespace Go.Proofs.YtjldgcpmdcoejaaGreatDoor
open Go.RowKit

/-- An argument behind its word. -/
def argW (s : ByteArray) (M : Bool → Nat → Nat → RM (List PT)) (f : Nat) (p n nest : Nat) (nm : ByteArray) (p2 : Nat) (w : ByteArray) (p3 : Nat) : RM PT :=
  if wordK w = 0 then .bad 290 (skip s p2)
  else if wordK w = 3 then
    if byt s (skip s p3) = 44 then (styleS s (skip s p3 + 1)).thenM fun st p4 => (signS s 125 p4).thenM fun _ p5 => .ok ⟨3, ⟨#[]⟩, nm, w, st, 0, []⟩ p5 n
    else (signS s 125 (skip s p3)).thenM fun _ p5 => .ok ⟨3, ⟨#[]⟩, nm, w, ⟨#[]⟩, 0, []⟩ p5 n
  else (signS s 44 p3).thenM fun _ p4 => (choiS s (M (decide (wordK w ≠ 4))) f (wordK w) p p4 n nest).then fun x p5 n5 =>
    (signS s 125 p5).thenM fun _ p6 => .ok ⟨wordK w, ⟨#[]⟩, nm, ⟨#[]⟩, ⟨#[]⟩, x.1, x.2⟩ p6 n5
/-- An argument behind its name. -/
def argN (s : ByteArray) (M : Bool → Nat → Nat → RM (List PT)) (f : Nat) (p n nest : Nat) (nm : ByteArray) (p1 : Nat) : RM PT :=
  if byt s (skip s p1) = 125 then .ok ⟨3, ⟨#[]⟩, nm, ⟨#[]⟩, ⟨#[]⟩, 0, []⟩ (skip s p1 + 1) n else
  (signS s 44 (skip s p1)).thenM fun _ p2 => (nameS s (skip s p2)).thenM fun w p3 => argW s M f p n nest nm p2 w p3
theorem argS_eq (s : ByteArray) (M : Bool → Nat → Nat → RM (List PT)) (f : Nat) (p n nest : Nat) : argS s M f p n nest = (nameS s (p + 1)).thenM (argN s M f p n nest) := rfl
theorem styleS_out (s : ByteArray) (p : Nat) : styleS s p ≠ .out := by unfold styleS; split <;> first | (split <;> simp) | simp
theorem styleS_ge {s st : ByteArray} {p q : Nat} (h : styleS s p = .ok st q) (hp : p ≤ s.size) : p ≤ q ∧ q ≤ s.size := by
  unfold styleS at h
  split at h
  · cases h
  · split at h
    · cases h
    · injection h with _ h
      rw [← h]
      exact ⟨Nat.le_trans (skip_ge _ _) (styE_ge _ _), styE_le _ _ (skip_le _ _ hp)⟩
theorem wordK_of4 {wd : ByteArray} (h : wd = selectW) : wordK wd = 4 := by unfold wordK; rw [if_pos h]
theorem wordK_of5 {wd : ByteArray} (h4 : wd ≠ selectW) (h : wd = pluralW) : wordK wd = 5 := by unfold wordK; rw [if_neg h4, if_pos h]
theorem wordK_of6 {wd : ByteArray} (h4 : wd ≠ selectW) (h5 : wd ≠ pluralW) (h : wd = ordinalW) : wordK wd = 6 := by unfold wordK; rw [if_neg h4, if_neg h5, if_pos h]
theorem wordK_of3 {wd : ByteArray} (h4 : wd ≠ selectW) (h5 : wd ≠ pluralW) (h6 : wd ≠ ordinalW) (h : memW typesW wd = true) : wordK wd = 3 := by unfold wordK; rw [if_neg h4, if_neg h5, if_neg h6, if_pos h]
theorem wordK_of0 {wd : ByteArray} (h4 : wd ≠ selectW) (h5 : wd ≠ pluralW) (h6 : wd ≠ ordinalW) (h : memW typesW wd = false) : wordK wd = 0 := by unfold wordK; rw [if_neg h4, if_neg h5, if_neg h6, h]; rfl
set_option maxRecDepth 100000 in
set_option maxHeartbeats 16000000 in
/-- argument, where it fails. -/
theorem arg_bad {B f : Nat} (s : ByteArray) (hM : MsgD s f) (hs : s.size ≤ 1000000000) (w : World) (g p n d : Nat) (v : Value) (hl : List Bool) (hE : EnvM B w) (hBg : B ≤ g) (h : Rr w g s p n d v) (hH : Hs B w v hl) (hp : p < s.size) (hn : n ≤ 1024) (hd : d ≤ 8) (hld : hl.length = d)
    (e : Int) (q : Nat) (ha : argS s (fun h' => msgF s f (d + 1) h' []) f p n d = .bad e q) :
    Calls Tryz.prog 69 #[.pointer (some ⟨g, 0, none⟩)] w fun x w' => x = Stop e q ∧ Below B w w' := by
  have HE := Lib.hid hE
  have HR := Lib.hid h
  have HH := Lib.hid hH
  obtain ⟨c0, c1, c2, c3, c4, f1, f2, f3, f4⟩ := h.cells
  have hgl := h.lt
  have hvg : Hid (∀ x ∈ v.ownBlock.toList, x ≠ g) := fun x hx => by rintro rfl; exact own_blk_ne hH h (by decide) (by simpa using hx)
  obtain ⟨M, hMM⟩ : ∃ M : Bool → Nat → Nat → RM (List PT), M = fun h' => msgF s f (d + 1) h' [] := ⟨_, rfl⟩
  rw [← hMM, argS_eq] at ha
  have HMM := Lib.hid hMM
  have HA := Lib.hid ha
  have HBEL : Hid (∀ W, Keep [g] w W → Below B w W) := fun W hk => hk.below (by simpa using hBg) hE.env.le
  clear h hH hE ha hMM
  go_enter Tryz.func69, Tryz.ntmps69
  go_wp2_with fail
  have hR1 : Rr ((w.setCell ⟨g, 1, none⟩ (.int .i64 ((p : Int) + 1))).alloc (.cells #[.int .i64 0, .string ⟨#[]⟩, .string ⟨#[]⟩, .string ⟨#[]⟩, .string ⟨#[]⟩, .int .i64 0, .slice none 0 0] 47)) g s (p + 1) n d v := Blk.alloc (HR.out.setAt (p + 1) _ (by omega)) _
  have hK1 : Keep [g] w ((w.setCell ⟨g, 1, none⟩ (.int .i64 ((p : Int) + 1))).alloc (.cells #[.int .i64 0, .string ⟨#[]⟩, .string ⟨#[]⟩, .string ⟨#[]⟩, .string ⟨#[]⟩, .int .i64 0, .slice none 0 0] 47)) := ((Keep.refl [g] w).setCell (p := ⟨g, 1, none⟩) (.inl (by simp)) _).alloc _
  generalize (w.setCell ⟨g, 1, none⟩ (.int .i64 ((p : Int) + 1))).alloc (.cells #[.int .i64 0, .string ⟨#[]⟩, .string ⟨#[]⟩, .string ⟨#[]⟩, .string ⟨#[]⟩, .int .i64 0, .slice none 0 0] 47) = W1 at *
  obtain ⟨rb, hrb⟩ : ∃ rb, w.heap.size = rb := ⟨_, rfl⟩
  rw [hrb] at hgl ⊢
  have HRB := Lib.hid hrb
  have HN1 := Lib.hid (name_any W1 g s (p + 1) n d v hR1 (by omega) (by omega))
  have HK1 := Lib.hid hK1
  clear hR1 hK1 c0 c1 c2 c3 c4 f1 f2 f3 f4 hrb
  cases hnm : nameS s (p + 1) with
  | out => exact absurd hnm (nameS_out _ _)
  | bad e1 q1 =>
    rw [hnm] at HN1 HA
    clear hnm
    have ha := HA.out
    cases ha
    refine HN1.out.mono ?_
    rintro x W2 ⟨rfl, hk2⟩
    go_wp2_with fail
    exact ⟨rfl, rfl, HBEL.out _ (HK1.out.same hk2)⟩
  | ok nm p1 =>
    have hp1 := nameS_ge hnm
    have hk1 := skip_ge s p1
    have hk1s := skip_le s p1 hp1.2
    rw [hnm] at HN1 HA
    have HA2 : Hid (argN s M f p n d nm p1 = .bad e q) := HA.out
    clear hnm HA
    refine HN1.out.mono ?_
    rintro x W2 ⟨rfl, hR2, hk2'⟩
    have HK2 := Lib.hid (HK1.out.same hk2')
    have hz2 := HK2.out.size
    have HR2 := Lib.hid hR2
    clear hR2 hk2' HN1
    go_wp2_with fail
    have hR3 : Rr (W2.alloc (.cells #[.int .i64 3, .string ⟨#[]⟩, .string nm, .string ⟨#[]⟩, .string ⟨#[]⟩, .int .i64 0, .slice none 0 0] 47)) g s p1 n d v := Blk.alloc HR2.out _
    have hP3 : Blk (W2.alloc (.cells #[.int .i64 3, .string ⟨#[]⟩, .string nm, .string ⟨#[]⟩, .string ⟨#[]⟩, .int .i64 0, .slice none 0 0] 47)) W2.heap.size 47 ((nameP 3 nm ⟨#[]⟩ ⟨#[]⟩).cells (.slice none 0 0)).toArray := Blk.new _ _ _
    have hK3 : Keep [g] w (W2.alloc (.cells #[.int .i64 3, .string ⟨#[]⟩, .string nm, .string ⟨#[]⟩, .string ⟨#[]⟩, .int .i64 0, .slice none 0 0] 47)) := HK2.out.alloc _
    generalize W2.alloc (.cells #[.int .i64 3, .string ⟨#[]⟩, .string nm, .string ⟨#[]⟩, .string ⟨#[]⟩, .int .i64 0, .slice none 0 0] 47) = W3 at *
    obtain ⟨pb, hpb⟩ : ∃ pb, W2.heap.size = pb := ⟨_, rfl⟩
    rw [hpb] at hP3 hz2 ⊢
    have hzw : rb ≤ pb := by have := HRB.out; omega
    have HP3 := Lib.hid hP3
    have HK3 := Lib.hid hK3
    have HR3 := Lib.hid hR3
    clear hR3 hP3 hK3 HK2 HR2 HK1 hpb hz2
    refine (blanks_any W3 g s p1 n d v HR3.out hp1.2 (by omega)).mono ?_
    rintro x W4 ⟨rfl, hR4, hk4⟩
    have HR4 := Lib.hid hR4
    have HK34 := Lib.hid hk4
    clear hR4 hk4
    go_wp2_with fail
    have h125 : byt s (skip s p1) ≠ 125 := fun hc => by
      have ha := HA2.out
      unfold argN at ha
      rw [if_pos hc] at ha
      cases ha
    have HO := Lib.hid (show (byt s (skip s p1) == 125) = false by simpa using h125)
    have HA3 : Hid (((signS s 44 (skip s p1)).thenM fun _ p2 => (nameS s (skip s p2)).thenM fun w p3 => argW s M f p n d nm p2 w p3) = .bad e q) := by
      have ha := HA2.out
      unfold argN at ha
      rw [if_neg h125] at ha
      exact ha
    clear HA2 h125
    refine (on_any W4 g s (skip s p1) n d v 125 HR4.out (by omega)).mono ?_
    rintro x W5 ⟨rfl, k5, hW5⟩
    rw [HO.out]
    have HR5 : Hid (Rr W5 g s (skip s p1) n d v) := by unfold Hid; rw [hW5]; exact HR4.out.drewN _
    have HK35 : Hid (Keep [g] W3 W5) := by unfold Hid; rw [hW5]; exact HK34.out.drewN _
    clear hW5
    have HS5 := Lib.hid (sign_any W5 g s (skip s p1) n d v 44 HR5.out (by omega) (by omega) (by omega))
    cases hs2 : signS s 44 (skip s p1) with
    | out => exact absurd hs2 (signS_out _ _ _)
    | bad e1 q1 =>
      rw [hs2] at HS5 HA3
      clear hs2
      have ha := HA3.out
      cases ha
      go_wp2_with fail
      refine HS5.out.mono ?_
      rintro x W6 ⟨rfl, hk6⟩
      go_wp2_with fail
      exact ⟨rfl, rfl, HBEL.out _ (HK3.out.same (HK35.out.same hk6))⟩
    | ok u2 p2 =>
      have hp2 := signS_ge (by omega) hs2
      have hk2 := skip_ge s p2
      have hk2s := skip_le s p2 hp2.2
      rw [hs2] at HS5 HA3
      have HA4 : Hid (((nameS s (skip s p2)).thenM fun w p3 => argW s M f p n d nm p2 w p3) = .bad e q) := HA3.out
      clear hs2 HA3
      go_wp2_with fail
      refine HS5.out.mono ?_
      rintro x W6 ⟨rfl, hR6, hk6⟩
      have HK36 := Lib.hid (HK35.out.same hk6)
      have HR6 := Lib.hid hR6
      clear hR6 hk6 HS5
      go_wp2_with fail
      refine (blanks_any W6 g s p2 n d v HR6.out hp2.2 (by omega)).mono ?_
      rintro x W7 ⟨rfl, hR7, hk7⟩
      obtain ⟨c0, c1, c2, c3, c4, f1, f2, f3, f4⟩ := hR7.cells
      have HR7 := Lib.hid hR7
      have HK37 := Lib.hid (HK36.out.same hk7)
      have HN7 := Lib.hid (name_any W7 g s (skip s p2) n d v hR7 hk2s (by omega))
      clear hR7 hk7
      cases hs3 : nameS s (skip s p2) with
      | out => exact absurd hs3 (nameS_out _ _)
      | bad e1 q1 =>
        rw [hs3] at HN7 HA4
        clear hs3
        have ha := HA4.out
        cases ha
        go_wp2_with fail
        refine HN7.out.mono ?_
        rintro x W8 ⟨rfl, hk8⟩
        go_wp2_with fail
        exact ⟨rfl, rfl, HBEL.out _ (HK3.out.same (HK37.out.same hk8))⟩
      | ok wd p3 =>
        have hp3 := nameS_ge hs3
        rw [hs3] at HN7 HA4
        have HA5 : Hid (argW s M f p n d nm p2 wd p3 = .bad e q) := HA4.out
        clear hs3 HA4
        go_wp2_with fail
        refine HN7.out.mono ?_
        rintro x W8 ⟨rfl, hR8, hk8⟩
        have hk38 := HK37.out.same hk8
        have hP8 : Blk W8 pb 47 #[.int .i64 3, .string ⟨#[]⟩, .string nm, .string ⟨#[]⟩, .string ⟨#[]⟩, .int .i64 0, .slice none 0 0] := HP3.out.keep hk38 (by simp; omega)
        have hE8 : EnvM B W8 := HE.out.keep (HK3.out.same hk38) (by simpa using hBg)
        have hpb8 : pb < W8.heap.size := hP8.lt
        have hgb8 : g < W8.heap.size := hR8.lt
        have a0 : W8.cell? ⟨pb, 0, none⟩ = some (.int .i64 3) := hP8.cell_eq rfl
        have a3 : W8.cell? ⟨pb, 3, none⟩ = some (.string ⟨#[]⟩) := hP8.cell_eq rfl
        have az := hP8.frozen 0
        have az3 := hP8.frozen 3
        have he : ByteArray.toList ⟨#[]⟩ = [] := by rw [ByteArray.toList_eq]
        have HP8 := Lib.hid hP8
        have HR8 := Lib.hid hR8
        have HK38 := Lib.hid hk38
        have HE8 := Lib.hid hE8
        clear hR8 hk8 hP8 hk38 HN7 hE8 c0 c1 c2 c3 c4 f1 f2 f3 f4
        by_cases h4 : wd = selectW
        · have hwk := Lib.hid (wordK_of4 h4)
          have e4 : (wd.toList == [115, 101, 108, 101, 99, 116]) = true := by rw [wtest]; exact decide_eq_true h4
          clear h4
          have HA6 : Hid (((signS s 44 p3).thenM fun _ p4 => (choiS s (M (decide ((4 : Int) ≠ 4))) f 4 p p4 n d).then fun x p5 n5 => (signS s 125 p5).thenM fun _ p6 => (.ok ⟨4, ⟨#[]⟩, nm, ⟨#[]⟩, ⟨#[]⟩, x.1, x.2⟩ p6 n5 : RM PT)) = .bad e q) := by
            have ha := HA5.out
            unfold argW at ha
            rw [hwk.out, if_neg (by decide), if_neg (by decide)] at ha
            exact ha
          clear HA5
          go_wp2_with fail
          have hk9 : Keep [pb] W8 (W8.setCell ⟨pb, 0, none⟩ (.int .i64 4)) := (Keep.refl _ _).setCell (.inl (by simp)) _
          have hP9 : Blk (W8.setCell ⟨pb, 0, none⟩ (.int .i64 4)) pb 47 ((nameP 4 nm ⟨#[]⟩ ⟨#[]⟩).cells (.slice none 0 0)).toArray := Blk.set_ HP8.out 0 _
          have hR9 := HR8.out.keep hk9 (by simp; omega)
          have hK9 := HK3.out.same (HK38.out) |>.trans hk9 (fun x hx => .inr (by simp at hx; subst hx; have := HRB.out; omega))
          generalize W8.setCell ⟨pb, 0, none⟩ (.int .i64 4) = W9 at *
          have HP9 := Lib.hid hP9
          have HK9 := Lib.hid hK9
          have HS9 := Lib.hid (sign_any W9 g s p3 n d v 44 hR9 hp3.2 (by omega) (by omega))
          clear hP9 hK9 hR9 hk9 a3 az a0 az3
          cases hs4 : signS s 44 p3 with
          | out => exact absurd hs4 (signS_out _ _ _)
          | bad e1 q1 =>
            rw [hs4] at HS9 HA6
            clear hs4
            have ha := HA6.out
            cases ha
            refine HS9.out.mono ?_
            rintro x W10 ⟨rfl, hk10⟩
            go_wp2_with fail
            exact ⟨rfl, rfl, HBEL.out _ (HK9.out.same hk10)⟩
          | ok u4 p4 =>
            have hp4 := signS_ge (by omega) hs4
            rw [hs4] at HS9 HA6
            have HA7 : Hid (((choiS s (M (decide ((4 : Int) ≠ 4))) f 4 p p4 n d).then fun x p5 n5 => (signS s 125 p5).thenM fun _ p6 => (.ok ⟨4, ⟨#[]⟩, nm, ⟨#[]⟩, ⟨#[]⟩, x.1, x.2⟩ p6 n5 : RM PT)) = .bad e q) := HA6.out
            clear hs4 HA6
            refine HS9.out.mono ?_
            rintro x W10 ⟨rfl, hR10, hk10⟩
            have hP10 := HP9.out.keep hk10 (by simp; omega)
            have hK10 := HK9.out.same hk10
            have hH10 := HH.out.keep hK10 (fun x hx hc => by simp at hc; exact hvg.out x hx hc)
            have hrw := HRB.out
            have hEB := HE.out.env.le
            have hcm : (fun p n => msgF s f (d + 1) (decide ((nameP 4 nm ⟨#[]⟩ ⟨#[]⟩).k ≠ 4)) [] p n) = M (decide ((4 : Int) ≠ 4)) := by rw [HMM.out]; rfl
            have hno : choiS s (M (decide ((4 : Int) ≠ 4))) f 4 p p4 n d ≠ .out := fun hc => by
              have ha := HA7.out
              rw [hc] at ha
              cases ha
            have HCC := Lib.hid (choice_all s f hM hs W10 B g pb (nameP 4 nm ⟨#[]⟩ ⟨#[]⟩) p p4 n d v hl (HE.out.keep hK10 (by simpa using hBg)) hBg (by omega) hR10 hH10 hp4.2 hn hd hld hP10 ⟨rfl, rfl⟩ (by rw [hcm]; exact hno))
            rw [hcm, show (nameP 4 nm ⟨#[]⟩ ⟨#[]⟩).k = 4 from rfl] at HCC
            have HK10 := Lib.hid hK10
            clear hR10 hk10 hP10 hK10 hH10 hrw hcm hno
            cases hch : choiS s (M (decide ((4 : Int) ≠ 4))) f 4 p p4 n d with
            | out => rw [hch] at HA7; exact absurd HA7.out (fun h => by cases h)
            | bad e1 q1 =>
              rw [hch] at HCC HA7
              clear hch
              have ha := HA7.out
              cases ha
              go_wp2_with fail
              refine HCC.out.mono ?_
              rintro x W11 ⟨rfl, hb11⟩
              go_wp2_with fail
              exact ⟨rfl, rfl, (HBEL.out _ HK10.out).trans hb11⟩
            | ok oc p5 n5 =>
              rw [hch] at HCC HA7
              have HA8 : Hid (((signS s 125 p5).thenM fun _ p6 => (.ok ⟨4, ⟨#[]⟩, nm, ⟨#[]⟩, ⟨#[]⟩, oc.1, oc.2⟩ p6 n5 : RM PT)) = .bad e q) := HA7.out
              clear hch HA7
              go_wp2_with fail
              refine HCC.out.mono ?_
              rintro x W11 ⟨rfl, cv, v11, S, hP11, hL11, hS11, hR11, hH11, hV11, hK11, hp45, hp5, hn5⟩
              have HS11 := Lib.hid (sign_any W11 g s p5 n5 d v11 125 hR11 hp5 (by omega) (by omega))
              have hB11 : Below B w W11 := (HBEL.out _ HK10.out).trans (hK11.below (fun x hx => by
                simp only [List.cons_append, List.nil_append, List.mem_cons] at hx
                rcases hx with h | h | h
                · omega
                · omega
                · exact (World.ownsRow.lt HH.out x (by simpa using h)).1) (Nat.le_trans HE.out.env.le HK10.out.size))
              have HB11 := Lib.hid hB11
              have h6' : p5 ≤ s.size := hp5
              clear hP11 hL11 hS11 hR11 hH11 hV11 hK11 HCC hB11
              cases hs6 : signS s 125 p5 with
              | out => exact absurd hs6 (signS_out _ _ _)
              | ok u6 p6 => rw [hs6] at HA8; exact absurd HA8.out (fun h => by cases h)
              | bad e1 q1 =>
                rw [hs6] at HS11 HA8
                clear hs6
                have ha := HA8.out
                cases ha
                go_wp2_with fail
                refine HS11.out.mono ?_
                rintro x W12 ⟨rfl, hk12⟩
                go_wp2_with fail
                exact ⟨rfl, rfl, HB11.out.trans (hk12.below (by simpa using hBg) (Nat.le_trans HE.out.env.le HB11.out.size))⟩
        · have e4 : (wd.toList == [115, 101, 108, 101, 99, 116]) = false := by rw [wtest]; exact decide_eq_false h4
          by_cases h5 : wd = pluralW
          · have hwk := Lib.hid (wordK_of5 h4 h5)
            have e5 : (wd.toList == [112, 108, 117, 114, 97, 108]) = true := by rw [wtest]; exact decide_eq_true h5
            clear h4 h5
            have HA6 : Hid (((signS s 44 p3).thenM fun _ p4 => (choiS s (M (decide ((5 : Int) ≠ 4))) f 5 p p4 n d).then fun x p5 n5 => (signS s 125 p5).thenM fun _ p6 => (.ok ⟨5, ⟨#[]⟩, nm, ⟨#[]⟩, ⟨#[]⟩, x.1, x.2⟩ p6 n5 : RM PT)) = .bad e q) := by
              have ha := HA5.out
              unfold argW at ha
              rw [hwk.out, if_neg (by decide), if_neg (by decide)] at ha
              exact ha
            clear HA5
            go_wp2_with fail
            have hk9 : Keep [pb] W8 (W8.setCell ⟨pb, 0, none⟩ (.int .i64 5)) := (Keep.refl _ _).setCell (.inl (by simp)) _
            have hP9 : Blk (W8.setCell ⟨pb, 0, none⟩ (.int .i64 5)) pb 47 ((nameP 5 nm ⟨#[]⟩ ⟨#[]⟩).cells (.slice none 0 0)).toArray := Blk.set_ HP8.out 0 _
            have hR9 := HR8.out.keep hk9 (by simp; omega)
            have hK9 := HK3.out.same (HK38.out) |>.trans hk9 (fun x hx => .inr (by simp at hx; subst hx; have := HRB.out; omega))
            generalize W8.setCell ⟨pb, 0, none⟩ (.int .i64 5) = W9 at *
            have HP9 := Lib.hid hP9
            have HK9 := Lib.hid hK9
            have HS9 := Lib.hid (sign_any W9 g s p3 n d v 44 hR9 hp3.2 (by omega) (by omega))
            clear hP9 hK9 hR9 hk9 a3 az a0 az3
            cases hs4 : signS s 44 p3 with
            | out => exact absurd hs4 (signS_out _ _ _)
            | bad e1 q1 =>
              rw [hs4] at HS9 HA6
              clear hs4
              have ha := HA6.out
              cases ha
              refine HS9.out.mono ?_
              rintro x W10 ⟨rfl, hk10⟩
              go_wp2_with fail
              exact ⟨rfl, rfl, HBEL.out _ (HK9.out.same hk10)⟩
            | ok u4 p4 =>
              have hp4 := signS_ge (by omega) hs4
              rw [hs4] at HS9 HA6
              have HA7 : Hid (((choiS s (M (decide ((5 : Int) ≠ 4))) f 5 p p4 n d).then fun x p5 n5 => (signS s 125 p5).thenM fun _ p6 => (.ok ⟨5, ⟨#[]⟩, nm, ⟨#[]⟩, ⟨#[]⟩, x.1, x.2⟩ p6 n5 : RM PT)) = .bad e q) := HA6.out
              clear hs4 HA6
              refine HS9.out.mono ?_
              rintro x W10 ⟨rfl, hR10, hk10⟩
              have hP10 := HP9.out.keep hk10 (by simp; omega)
              have hK10 := HK9.out.same hk10
              have hH10 := HH.out.keep hK10 (fun x hx hc => by simp at hc; exact hvg.out x hx hc)
              have hrw := HRB.out
              have hEB := HE.out.env.le
              have hcm : (fun p n => msgF s f (d + 1) (decide ((nameP 5 nm ⟨#[]⟩ ⟨#[]⟩).k ≠ 4)) [] p n) = M (decide ((5 : Int) ≠ 4)) := by rw [HMM.out]; rfl
              have hno : choiS s (M (decide ((5 : Int) ≠ 4))) f 5 p p4 n d ≠ .out := fun hc => by
                have ha := HA7.out
                rw [hc] at ha
                cases ha
              have HCC := Lib.hid (choice_all s f hM hs W10 B g pb (nameP 5 nm ⟨#[]⟩ ⟨#[]⟩) p p4 n d v hl (HE.out.keep hK10 (by simpa using hBg)) hBg (by omega) hR10 hH10 hp4.2 hn hd hld hP10 ⟨rfl, rfl⟩ (by rw [hcm]; exact hno))
              rw [hcm, show (nameP 5 nm ⟨#[]⟩ ⟨#[]⟩).k = 5 from rfl] at HCC
              have HK10 := Lib.hid hK10
              clear hR10 hk10 hP10 hK10 hH10 hrw hcm hno
              cases hch : choiS s (M (decide ((5 : Int) ≠ 4))) f 5 p p4 n d with
              | out => rw [hch] at HA7; exact absurd HA7.out (fun h => by cases h)
              | bad e1 q1 =>
                rw [hch] at HCC HA7
                clear hch
                have ha := HA7.out
                cases ha
                go_wp2_with fail
                refine HCC.out.mono ?_
                rintro x W11 ⟨rfl, hb11⟩
                go_wp2_with fail
                exact ⟨rfl, rfl, (HBEL.out _ HK10.out).trans hb11⟩
              | ok oc p5 n5 =>
                rw [hch] at HCC HA7
                have HA8 : Hid (((signS s 125 p5).thenM fun _ p6 => (.ok ⟨5, ⟨#[]⟩, nm, ⟨#[]⟩, ⟨#[]⟩, oc.1, oc.2⟩ p6 n5 : RM PT)) = .bad e q) := HA7.out
                clear hch HA7
                go_wp2_with fail
                refine HCC.out.mono ?_
                rintro x W11 ⟨rfl, cv, v11, S, hP11, hL11, hS11, hR11, hH11, hV11, hK11, hp45, hp5, hn5⟩
                have HS11 := Lib.hid (sign_any W11 g s p5 n5 d v11 125 hR11 hp5 (by omega) (by omega))
                have hB11 : Below B w W11 := (HBEL.out _ HK10.out).trans (hK11.below (fun x hx => by
                  simp only [List.cons_append, List.nil_append, List.mem_cons] at hx
                  rcases hx with h | h | h
                  · omega
                  · omega
                  · exact (World.ownsRow.lt HH.out x (by simpa using h)).1) (Nat.le_trans HE.out.env.le HK10.out.size))
                have HB11 := Lib.hid hB11
                have h6' : p5 ≤ s.size := hp5
                clear hP11 hL11 hS11 hR11 hH11 hV11 hK11 HCC hB11
                cases hs6 : signS s 125 p5 with
                | out => exact absurd hs6 (signS_out _ _ _)
                | ok u6 p6 => rw [hs6] at HA8; exact absurd HA8.out (fun h => by cases h)
                | bad e1 q1 =>
                  rw [hs6] at HS11 HA8
                  clear hs6
                  have ha := HA8.out
                  cases ha
                  go_wp2_with fail
                  refine HS11.out.mono ?_
                  rintro x W12 ⟨rfl, hk12⟩
                  go_wp2_with fail
                  exact ⟨rfl, rfl, HB11.out.trans (hk12.below (by simpa using hBg) (Nat.le_trans HE.out.env.le HB11.out.size))⟩
          · have e5 : (wd.toList == [112, 108, 117, 114, 97, 108]) = false := by rw [wtest]; exact decide_eq_false h5
            by_cases h6 : wd = ordinalW
            · have hwk := Lib.hid (wordK_of6 h4 h5 h6)
              have e6 : (wd.toList == [115, 101, 108, 101, 99, 116, 111, 114, 100, 105, 110, 97, 108]) = true := by rw [wtest]; exact decide_eq_true h6
              clear h4 h5 h6
              have HA6 : Hid (((signS s 44 p3).thenM fun _ p4 => (choiS s (M (decide ((6 : Int) ≠ 4))) f 6 p p4 n d).then fun x p5 n5 => (signS s 125 p5).thenM fun _ p6 => (.ok ⟨6, ⟨#[]⟩, nm, ⟨#[]⟩, ⟨#[]⟩, x.1, x.2⟩ p6 n5 : RM PT)) = .bad e q) := by
                have ha := HA5.out
                unfold argW at ha
                rw [hwk.out, if_neg (by decide), if_neg (by decide)] at ha
                exact ha
              clear HA5
              go_wp2_with fail
              have hk9 : Keep [pb] W8 (W8.setCell ⟨pb, 0, none⟩ (.int .i64 6)) := (Keep.refl _ _).setCell (.inl (by simp)) _
              have hP9 : Blk (W8.setCell ⟨pb, 0, none⟩ (.int .i64 6)) pb 47 ((nameP 6 nm ⟨#[]⟩ ⟨#[]⟩).cells (.slice none 0 0)).toArray := Blk.set_ HP8.out 0 _
              have hR9 := HR8.out.keep hk9 (by simp; omega)
              have hK9 := HK3.out.same (HK38.out) |>.trans hk9 (fun x hx => .inr (by simp at hx; subst hx; have := HRB.out; omega))
              generalize W8.setCell ⟨pb, 0, none⟩ (.int .i64 6) = W9 at *
              have HP9 := Lib.hid hP9
              have HK9 := Lib.hid hK9
              have HS9 := Lib.hid (sign_any W9 g s p3 n d v 44 hR9 hp3.2 (by omega) (by omega))
              clear hP9 hK9 hR9 hk9 a3 az a0 az3
              cases hs4 : signS s 44 p3 with
              | out => exact absurd hs4 (signS_out _ _ _)
              | bad e1 q1 =>
                rw [hs4] at HS9 HA6
                clear hs4
                have ha := HA6.out
                cases ha
                refine HS9.out.mono ?_
                rintro x W10 ⟨rfl, hk10⟩
                go_wp2_with fail
                exact ⟨rfl, rfl, HBEL.out _ (HK9.out.same hk10)⟩
              | ok u4 p4 =>
                have hp4 := signS_ge (by omega) hs4
                rw [hs4] at HS9 HA6
                have HA7 : Hid (((choiS s (M (decide ((6 : Int) ≠ 4))) f 6 p p4 n d).then fun x p5 n5 => (signS s 125 p5).thenM fun _ p6 => (.ok ⟨6, ⟨#[]⟩, nm, ⟨#[]⟩, ⟨#[]⟩, x.1, x.2⟩ p6 n5 : RM PT)) = .bad e q) := HA6.out
                clear hs4 HA6
                refine HS9.out.mono ?_
                rintro x W10 ⟨rfl, hR10, hk10⟩
                have hP10 := HP9.out.keep hk10 (by simp; omega)
                have hK10 := HK9.out.same hk10
                have hH10 := HH.out.keep hK10 (fun x hx hc => by simp at hc; exact hvg.out x hx hc)
                have hrw := HRB.out
                have hEB := HE.out.env.le
                have hcm : (fun p n => msgF s f (d + 1) (decide ((nameP 6 nm ⟨#[]⟩ ⟨#[]⟩).k ≠ 4)) [] p n) = M (decide ((6 : Int) ≠ 4)) := by rw [HMM.out]; rfl
                have hno : choiS s (M (decide ((6 : Int) ≠ 4))) f 6 p p4 n d ≠ .out := fun hc => by
                  have ha := HA7.out
                  rw [hc] at ha
                  cases ha
                have HCC := Lib.hid (choice_all s f hM hs W10 B g pb (nameP 6 nm ⟨#[]⟩ ⟨#[]⟩) p p4 n d v hl (HE.out.keep hK10 (by simpa using hBg)) hBg (by omega) hR10 hH10 hp4.2 hn hd hld hP10 ⟨rfl, rfl⟩ (by rw [hcm]; exact hno))
                rw [hcm, show (nameP 6 nm ⟨#[]⟩ ⟨#[]⟩).k = 6 from rfl] at HCC
                have HK10 := Lib.hid hK10
                clear hR10 hk10 hP10 hK10 hH10 hrw hcm hno
                cases hch : choiS s (M (decide ((6 : Int) ≠ 4))) f 6 p p4 n d with
                | out => rw [hch] at HA7; exact absurd HA7.out (fun h => by cases h)
                | bad e1 q1 =>
                  rw [hch] at HCC HA7
                  clear hch
                  have ha := HA7.out
                  cases ha
                  go_wp2_with fail
                  refine HCC.out.mono ?_
                  rintro x W11 ⟨rfl, hb11⟩
                  go_wp2_with fail
                  exact ⟨rfl, rfl, (HBEL.out _ HK10.out).trans hb11⟩
                | ok oc p5 n5 =>
                  rw [hch] at HCC HA7
                  have HA8 : Hid (((signS s 125 p5).thenM fun _ p6 => (.ok ⟨6, ⟨#[]⟩, nm, ⟨#[]⟩, ⟨#[]⟩, oc.1, oc.2⟩ p6 n5 : RM PT)) = .bad e q) := HA7.out
                  clear hch HA7
                  go_wp2_with fail
                  refine HCC.out.mono ?_
                  rintro x W11 ⟨rfl, cv, v11, S, hP11, hL11, hS11, hR11, hH11, hV11, hK11, hp45, hp5, hn5⟩
                  have HS11 := Lib.hid (sign_any W11 g s p5 n5 d v11 125 hR11 hp5 (by omega) (by omega))
                  have hB11 : Below B w W11 := (HBEL.out _ HK10.out).trans (hK11.below (fun x hx => by
                    simp only [List.cons_append, List.nil_append, List.mem_cons] at hx
                    rcases hx with h | h | h
                    · omega
                    · omega
                    · exact (World.ownsRow.lt HH.out x (by simpa using h)).1) (Nat.le_trans HE.out.env.le HK10.out.size))
                  have HB11 := Lib.hid hB11
                  have h6' : p5 ≤ s.size := hp5
                  clear hP11 hL11 hS11 hR11 hH11 hV11 hK11 HCC hB11
                  cases hs6 : signS s 125 p5 with
                  | out => exact absurd hs6 (signS_out _ _ _)
                  | ok u6 p6 => rw [hs6] at HA8; exact absurd HA8.out (fun h => by cases h)
                  | bad e1 q1 =>
                    rw [hs6] at HS11 HA8
                    clear hs6
                    have ha := HA8.out
                    cases ha
                    go_wp2_with fail
                    refine HS11.out.mono ?_
                    rintro x W12 ⟨rfl, hk12⟩
                    go_wp2_with fail
                    exact ⟨rfl, rfl, HB11.out.trans (hk12.below (by simpa using hBg) (Nat.le_trans HE.out.env.le HB11.out.size))⟩
            · have e6 : (wd.toList == [115, 101, 108, 101, 99, 116, 111, 114, 100, 105, 110, 97, 108]) = false := by rw [wtest]; exact decide_eq_false h6
              have HF8 : Hid (Calls Tryz.prog 98 #[.string ⟨#[110, 117, 109, 98, 101, 114, 32, 100, 97, 116, 101, 32, 116, 105, 109, 101, 32, 108, 105, 115, 116, 32, 117, 110, 105, 116, 32, 114, 101, 108, 97, 116, 105, 118, 101, 32, 112, 108, 97, 110, 101]⟩] W8 fun e w' => e = .returned (.slice (some ⟨W8.heap.size, 0, none⟩) 7 7) ∧ w' = W8.alloc (.cells #[.string ⟨#[110, 117, 109, 98, 101, 114]⟩, .string ⟨#[100, 97, 116, 101]⟩, .string ⟨#[116, 105, 109, 101]⟩, .string ⟨#[108, 105, 115, 116]⟩, .string ⟨#[117, 110, 105, 116]⟩, .string ⟨#[114, 101, 108, 97, 116, 105, 118, 101]⟩, .string ⟨#[112, 108, 97, 110, 101]⟩] 9)) := fields_words (B := B) _ typesW W8 HE8.out (by decide) (by decide) (by decide)
              have HC8 : Hid (Calls Tryz.prog 97 #[.slice (some ⟨W8.heap.size, 0, none⟩) 7 7, .string wd] (W8.alloc (.cells #[.string ⟨#[110, 117, 109, 98, 101, 114]⟩, .string ⟨#[100, 97, 116, 101]⟩, .string ⟨#[116, 105, 109, 101]⟩, .string ⟨#[108, 105, 115, 116]⟩, .string ⟨#[117, 110, 105, 116]⟩, .string ⟨#[114, 101, 108, 97, 116, 105, 118, 101]⟩, .string ⟨#[112, 108, 97, 110, 101]⟩] 9)) fun e w' => e = .returned (.bool (memW typesW wd)) ∧ w' = W8.alloc (.cells #[.string ⟨#[110, 117, 109, 98, 101, 114]⟩, .string ⟨#[100, 97, 116, 101]⟩, .string ⟨#[116, 105, 109, 101]⟩, .string ⟨#[108, 105, 115, 116]⟩, .string ⟨#[117, 110, 105, 116]⟩, .string ⟨#[114, 101, 108, 97, 116, 105, 118, 101]⟩, .string ⟨#[112, 108, 97, 110, 101]⟩] 9)) := words_contain W8 _ rfl typesW wd (by decide)
              cases hty : memW typesW wd with
              | false =>
                have HA6 : Hid (RM.bad 290 (skip s p2) = (.bad e q : RM PT)) := by
                  have ha := HA5.out
                  unfold argW at ha
                  rw [wordK_of0 h4 h5 h6 hty, if_pos rfl] at ha
                  exact ha
                rw [hty] at HC8
                clear h4 h5 h6 hty
                have ha := HA6.out
                cases ha
                go_wp2_with (first | (go_at_call 98; refine HF8.out.mono ?_; rintro e w' ⟨rfl, rfl⟩) | (go_at_call 97; refine HC8.out.mono ?_; rintro e w' ⟨rfl, rfl⟩) | (go_at_call 37; refine (rfail_any _ _ _ _).mono ?_; rintro x w9 ⟨rfl, rfl⟩))
                exact ⟨rfl, rfl, HBEL.out _ ((HK3.out.same HK38.out).alloc _)⟩
              | true =>
                have HA6 : Hid ((if byt s (skip s p3) = 44 then (styleS s (skip s p3 + 1)).thenM fun st p4 => (signS s 125 p4).thenM fun _ p5 => (.ok ⟨3, ⟨#[]⟩, nm, wd, st, 0, []⟩ p5 n : RM PT)
                    else (signS s 125 (skip s p3)).thenM fun _ p5 => (.ok ⟨3, ⟨#[]⟩, nm, wd, ⟨#[]⟩, 0, []⟩ p5 n : RM PT)) = .bad e q) := by
                  have ha := HA5.out
                  unfold argW at ha
                  rw [wordK_of3 h4 h5 h6 hty, if_neg (by decide), if_pos rfl] at ha
                  exact ha
                have hwe := types_ne hty
                rw [hty] at HC8
                clear h4 h5 h6 hty HA5
                go_wp2_with (first | (go_at_call 98; refine HF8.out.mono ?_; rintro e w' ⟨rfl, rfl⟩) | (go_at_call 97; refine HC8.out.mono ?_; rintro e w' ⟨rfl, rfl⟩))
                have hk9 : Keep [pb] W8 ((W8.setCell ⟨pb, 3, none⟩ (.string wd)).alloc (.cells #[.string ⟨#[110, 117, 109, 98, 101, 114]⟩, .string ⟨#[100, 97, 116, 101]⟩, .string ⟨#[116, 105, 109, 101]⟩, .string ⟨#[108, 105, 115, 116]⟩, .string ⟨#[117, 110, 105, 116]⟩, .string ⟨#[114, 101, 108, 97, 116, 105, 118, 101]⟩, .string ⟨#[112, 108, 97, 110, 101]⟩] 9)) := ((Keep.refl _ _).setCell (p := ⟨pb, 3, none⟩) (.inl (by simp)) _).alloc _
                have hP9 : Blk ((W8.setCell ⟨pb, 3, none⟩ (.string wd)).alloc (.cells #[.string ⟨#[110, 117, 109, 98, 101, 114]⟩, .string ⟨#[100, 97, 116, 101]⟩, .string ⟨#[116, 105, 109, 101]⟩, .string ⟨#[108, 105, 115, 116]⟩, .string ⟨#[117, 110, 105, 116]⟩, .string ⟨#[114, 101, 108, 97, 116, 105, 118, 101]⟩, .string ⟨#[112, 108, 97, 110, 101]⟩] 9)) pb 47 ((nameP 3 nm wd ⟨#[]⟩).cells (.slice none 0 0)).toArray := Blk.alloc (Blk.set_ HP8.out 3 _) _
                generalize (W8.setCell ⟨pb, 3, none⟩ (.string wd)).alloc (.cells #[.string ⟨#[110, 117, 109, 98, 101, 114]⟩, .string ⟨#[100, 97, 116, 101]⟩, .string ⟨#[116, 105, 109, 101]⟩, .string ⟨#[108, 105, 115, 116]⟩, .string ⟨#[117, 110, 105, 116]⟩, .string ⟨#[114, 101, 108, 97, 116, 105, 118, 101]⟩, .string ⟨#[112, 108, 97, 110, 101]⟩] 9) = W9 at *
                have hR9 := HR8.out.keep hk9 (by simp; omega)
                have hK9 := HK3.out.same (HK38.out) |>.trans hk9 (fun x hx => .inr (by simp at hx; subst hx; have := HRB.out; omega))
                have HP9 := Lib.hid hP9
                have HK9 := Lib.hid hK9
                have HR9 := Lib.hid hR9
                have hk3 := skip_ge s p3
                have hk3s := skip_le s p3 hp3.2
                clear hP9 hK9 hR9 hk9 a3 az a0 az3
                refine (blanks_any W9 g s p3 n d v HR9.out hp3.2 (by omega)).mono ?_
                rintro x W10 ⟨rfl, hR10, hk10⟩
                have HR10 := Lib.hid hR10
                have HK10 := Lib.hid hk10
                clear hR10 hk10
                go_wp2_with fail
                refine (on_any W10 g s (skip s p3) n d v 44 HR10.out (by omega)).mono ?_
                rintro x W11 ⟨rfl, k11, hW11⟩
                have HR11 : Hid (Rr W11 g s (skip s p3) n d v) := by unfold Hid; rw [hW11]; exact HR10.out.drewN _
                have HK11 : Hid (Keep [g] W9 W11) := by unfold Hid; rw [hW11]; exact HK10.out.drewN _
                clear hW11
                by_cases h44 : byt s (skip s p3) = 44
                · have H44 := Lib.hid (show (byt s (skip s p3) == 44) = true by rw [h44]; rfl)
                  have hlt3 : skip s p3 < s.size := byt_lt (by omega)
                  rw [if_pos h44] at HA6
                  rw [H44.out]
                  clear h44
                  obtain ⟨c0, c1, c2, c3, c4, f1, f2, f3, f4⟩ := HR11.out.cells
                  have hk12 : Keep [g] W11 (W11.setCell ⟨g, 1, none⟩ (.int .i64 ((skip s p3 : Nat) + 1))) := (Keep.refl _ _).setCell (.inl (by simp)) _
                  have HST12 := Lib.hid (style_any _ g s (skip s p3 + 1) n d v (HR11.out.setAt (skip s p3 + 1) ((skip s p3 : Nat) + 1) (by omega)) (by omega) hs)
                  have HK12 := Lib.hid hk12
                  clear hk12
                  cases hst : styleS s (skip s p3 + 1) with
                  | out => exact absurd hst (styleS_out _ _)
                  | bad e1 q1 =>
                    rw [hst] at HST12 HA6
                    clear hst
                    have ha := HA6.out
                    cases ha
                    go_wp2_with fail
                    refine HST12.out.mono ?_
                    rintro x W13 ⟨rfl, hk13⟩
                    go_wp2_with fail
                    exact ⟨rfl, rfl, HBEL.out _ (HK9.out.same ((HK11.out.same HK12.out).same hk13))⟩
                  | ok st p4 =>
                    have hp4 := styleS_ge hst (by omega)
                    rw [hst] at HST12 HA6
                    have HA7 : Hid (((signS s 125 p4).thenM fun _ p5 => (.ok ⟨3, ⟨#[]⟩, nm, wd, st, 0, []⟩ p5 n : RM PT)) = .bad e q) := HA6.out
                    clear hst HA6
                    go_wp2_with fail
                    refine HST12.out.mono ?_
                    rintro x W13 ⟨rfl, hR13, hk13⟩
                    have HK13' := Lib.hid ((HK11.out.same HK12.out).same hk13)
                    have hP13 := HP9.out.keep HK13'.out (by simp; omega)
                    have z4 := hP13.frozen 4
                    have y4 : W13.cell? ⟨pb, 4, none⟩ = some (.string ⟨#[]⟩) := hP13.cell_eq rfl
                    have HR13 := Lib.hid hR13
                    clear hP13 hR13 hk13 c0 c1 c2 c3 c4 f1 f2 f3 f4 HST12
                    have hk14 : Keep [pb] W13 (W13.setCell ⟨pb, 4, none⟩ (.string st)) := (Keep.refl _ _).setCell (.inl (by simp)) _
                    have hR14 := HR13.out.keep hk14 (by simp; omega)
                    have HKX : Hid (Keep [g] w (W13.setCell ⟨pb, 4, none⟩ (.string st))) := (HK9.out.same HK13'.out).trans hk14 (fun x hx => .inr (by simp at hx; subst hx; have := HRB.out; omega))
                    have HS11 := Lib.hid (sign_any _ g s p4 n d v 125 hR14 hp4.2 (by omega) (by omega))
                    clear hk14 hR14
                    cases hs6 : signS s 125 p4 with
                    | out => exact absurd hs6 (signS_out _ _ _)
                    | ok u6 p5 => rw [hs6] at HA7; exact absurd HA7.out (fun h => by cases h)
                    | bad e1 q1 =>
                      rw [hs6] at HS11 HA7
                      clear hs6
                      have ha := HA7.out
                      cases ha
                      go_wp2_with fail
                      refine HS11.out.mono ?_
                      rintro x W14 ⟨rfl, hk14⟩
                      go_wp2_with fail
                      exact ⟨rfl, rfl, HBEL.out _ (HKX.out.same hk14)⟩
                · have H44 := Lib.hid (show (byt s (skip s p3) == 44) = false by simpa using h44)
                  rw [if_neg h44] at HA6
                  rw [H44.out]
                  clear h44
                  have HS11 := Lib.hid (sign_any W11 g s (skip s p3) n d v 125 HR11.out hk3s (by omega) (by omega))
                  cases hs6 : signS s 125 (skip s p3) with
                  | out => exact absurd hs6 (signS_out _ _ _)
                  | ok u6 p5 => rw [hs6] at HA6; exact absurd HA6.out (fun h => by cases h)
                  | bad e1 q1 =>
                    rw [hs6] at HS11 HA6
                    clear hs6
                    have ha := HA6.out
                    cases ha
                    go_wp2_with fail
                    refine HS11.out.mono ?_
                    rintro x W14 ⟨rfl, hk14⟩
                    go_wp2_with fail
                    exact ⟨rfl, rfl, HBEL.out _ (HK9.out.same (HK11.out.same hk14))⟩
end Go.Proofs.YtjldgcpmdcoejaaGreatDoor

namespace Go.Proofs.YtjldgcpmdcoejaaGreatDoor
open Go.RowKit

theorem rr_ways {α : Type} (r : RR α) : r = .out ∨ (∃ e q, r = .bad e q) ∨ (∃ a q, r = .ok a q) := by
  cases r with
  | out => exact .inl rfl
  | bad e q => exact .inr (.inl ⟨e, q, rfl⟩)
  | ok a q => exact .inr (.inr ⟨a, q, rfl⟩)
theorem rm_ways {α : Type} (r : RM α) : r = .out ∨ (∃ e q, r = .bad e q) ∨ (∃ a q n, r = .ok a q n) := by
  cases r with
  | out => exact .inl rfl
  | bad e q => exact .inr (.inl ⟨e, q, rfl⟩)
  | ok a q n => exact .inr (.inr ⟨a, q, n, rfl⟩)
set_option maxRecDepth 100000 in
set_option maxHeartbeats 8000000 in
theorem msg_stepD (s : ByteArray) (F : Nat) (hIH : ∀ f, f < F → MsgD s f) (hs : s.size ≤ 100000) : MsgD s F := by
  intro w B g p0 n0 d v0 hl hE hBg h hH hp hn hd hld hno
  have HE := Lib.hid hE
  have HR := Lib.hid h
  have HH := Lib.hid hH
  have HBEL : Hid (∀ W, Keep (g :: v0.ownBlock.toList) w W → Below B w W) := fun W hk => hk.below (fun x hx => by
    rcases List.mem_cons.1 hx with h | h
    · omega
    · exact (World.ownsRow.lt hH x (by simpa using h)).1) hE.env.le
  generalize hRR : msgF s F d (topB hl) [] p0 n0 = R at *
  have HRR := Lib.hid hRR
  have hmf : ∀ (fn : Fn) (first cap : Array Value) (w : World), (Instr.makeFunc fn first cap).run Tryz.prog w = .ok (.func fn first cap) w := fun _ _ _ _ => rfl
  clear h hH hE hRR
  go_enter Tryz.func36, Tryz.ntmps36
  go_wp2_with fail
  obtain ⟨rb, hrb⟩ : ∃ rb, w.heap.size = rb := ⟨_, rfl⟩
  rw [hrb]
  refine wp_scope_loop 0 (MJ F w B g s p0 d v0 hl (rb + 1) rb R) (fun _ w => s.size + 1 - rdrAt w g) rfl ?_ ?_
  · rintro ⟨t, df⟩ w1 hJ
    obtain ⟨hdf, hsz, hs1, hs3, hs4, p, n, f, l, u, v, S, hM, hfF, hF⟩ := hJ
    simp only at hdf hsz hs1 hs3 hs4
    subst hdf
    obtain ⟨t, rfl⟩ := frame116 t hsz
    have hu1 : t 1 = .pointer (some ⟨rb, 0, none⟩) := hs1
    have hu3 : t 3 = .pointer (some ⟨rb + 1, 0, none⟩) := hs3
    have hu4 : t 4 = .func (.func 66) #[] #[.pointer (some ⟨rb + 1, 0, none⟩), .pointer (some ⟨rb, 0, none⟩)] := hs4
    clear hs1 hs3 hs4 hsz
    rw [hu1, hu3, hu4]
    clear hu1 hu3 hu4
    obtain ⟨f, rfl⟩ : ∃ f', f = f' + 1 := ⟨f - 1, by
      rcases f with _ | f
      · rw [← hF] at hno; exact absurd rfl hno
      · rfl⟩
    have hE1 : EnvM B w1 := HE.out.below (hM.kp.below (fun x hx => by
      rcases List.mem_cons.1 hx with h | h
      · omega
      · exact (World.ownsRow.lt HH.out x (by simpa using h)).1) HE.out.env.le)
    obtain ⟨c0, c1, c2, c3, c4, f1, f2, f3, f4⟩ := hM.rr.cells
    have r0 : w1.cell? ⟨rb, 0, none⟩ = some (.pointer (some ⟨g, 0, none⟩)) := hM.hr.cell_eq rfl
    have l0 : w1.cell? ⟨rb + 1, 0, none⟩ = some u := hM.hl.cell_eq rfl
    have hps := hM.ps
    have HM := Lib.hid hM
    have HF := Lib.hid hF
    have HE1 := Lib.hid hE1
    have hgl := hM.rr.lt
    clear hM hF hE1
    by_cases hend : p = s.size ∨ byt s p = 125
    · have hRe : RM.ok l p n = R := by rw [← HF.out, msgF_end hend]
      have fin : ∀ W k, W = w1.drewN k → MPost F w B g s p0 d v0 hl R (.returned u) W := fun W k hW => by
        subst hW
        rw [← hRe]
        have hk : Keep [] w1 (w1.drewN k) := (Keep.refl _ _).drewN _
        refine ⟨u, v, fun x => S x ∨ x ∈ u.ownBlock.toList, rfl, (HM.out.own.lies (fun x hx => .inl hx) (fun x hx => .inr hx)).keep hk (by simp), fun b hb => ?_, HM.out.rr.drewN _, HM.out.hh.keep hk (by simp), HM.out.hv, HM.out.kp.drewN _, HM.out.p0p, HM.out.ps, HM.out.n1⟩
        rcases hb with hb | hb
        · obtain ⟨h1, h2, h3, h4, _⟩ := HM.out.hS b hb
          exact ⟨h1, h2, h4⟩
        · obtain ⟨h1, h2⟩ := HM.out.own.lt b hb
          obtain ⟨_, _, hw2, _⟩ := HM.out.own
          exact ⟨h1, h2, fun hc => own_own_ne hw2 HM.out.hh (by decide) b hb hc⟩
      have HFIN := Lib.hid fin
      clear fin hRe
      by_cases hpe : p = s.size
      · have e1 : ((p : Int) == (s.size : Int)) = true := by simp; omega
        have e2 : (p == s.size) = true := by simpa using hpe
        clear hend hpe
        go_wp2
        go_quiet (fail)
        go_wp2
        simp only [Exit.jump]

        go_ret
        exact HFIN.out _ _ rfl
      · have h125 : byt s p = 125 := by omega
        have T1 : Hid ((byt s p == 125) = true) := by unfold Hid; rw [h125]; rfl
        have e1 : ((p : Int) == (s.size : Int)) = false := by simp; omega
        have e2 : (p == s.size) = false := by simpa using hpe
        clear hend hpe h125
        go_wp2
        go_quiet ((go_at_call 68; exact Calls.quiet_of (on_is g s p n d v w1 125 true HM.out.rr (by omega) T1.out _)))
        go_wp2
        simp only [Exit.jump]
        go_ret
        exact HFIN.out _ _ rfl
    · have hlt : p < s.size := by omega
      have h125 : byt s p ≠ 125 := fun h => hend (.inr h)
      have T1 : Hid ((byt s p == 125) = false) := by unfold Hid; simpa using h125
      have e1 : ((p : Int) == (s.size : Int)) = false := by simp; omega
      have e2 : (p == s.size) = false := by simp; omega
      clear hend
      go_wp2
      go_quiet ((go_at_call 68; exact Calls.quiet_of (on_is g s p n d v w1 125 false HM.out.rr (by omega) T1.out _)))
      have HM2 := Lib.hid (HM.out.draw nq)
      have HE2 := Lib.hid (HE1.out.drewN nq)
      have HMU : Hid (rdrAt w1 g = p) := HM.out.rr.at_
      generalize w1.drewN nq = w2 at *
      clear c0 c1 c2 c3 c4 f1 f2 f3 f4 r0 l0 hgl HM HE1 T1 e1 e2
      obtain ⟨c0, c1, c2, c3, c4, f1, r0, l0, z0⟩ := HM2.out.cells
      have hgl : g < w.heap.size := HR.out.lt
      by_cases h123 : byt s p = 123
      · have HF2 := Lib.hid (HF.out.symm.trans (msgF_arg h123))
        have O1 : Hid ((byt s p == 123) = true) := by unfold Hid; rw [h123]; rfl
        clear h123 h125 HF
        rcases Nat.lt_or_ge n 1024 with hn4 | hn4
        rotate_left
        · have hn5 : n = 1024 := by have := HM2.out.n1; omega
          rw [if_pos hn5] at HF2
          subst hn5
          clear hn4
          go_wp2_with (first | (go_at_call 68; refine (on_any w2 g s p _ d v 123 HM2.out.rr (by omega)).mono ?_; rintro x w3 ⟨rfl, k, rfl⟩; rw [O1.out]) | (go_at_call 67; refine (count_no _ g s p d v p (HM2.out.rr.drewN _)).mono ?_; rintro x w4 ⟨rfl, rfl⟩))
          rw [HF2.out]
          exact ⟨rfl, rfl, HBEL.out _ (HM2.out.kp.drewN k)⟩
        have HF3 : Hid ((argS s (fun h' => msgF s f (d + 1) h' []) f p (n + 1) d).then (fun a q n2 => msgF s f d (topB hl) (l ++ [a]) q n2) = R) := by have := HF2.out; rw [if_neg (by omega)] at this; exact this.symm
        clear HF2
        obtain ⟨x, hx⟩ : ∃ x, argS s (fun h' => msgF s f (d + 1) h' []) f p (n + 1) d = x := ⟨_, rfl⟩
        rw [hx] at HF3
        cases x with
        | out => exact absurd HF3.out (fun h => hno h.symm)
        | bad e q =>
          have HX := Lib.hid hx
          have HRb : Hid (R = .bad e q) := HF3.out.symm
          clear hx HF3
          go_upto_region 10 with (first | (go_at_call 68; refine (on_any w2 g s p n d v 123 HM2.out.rr (by omega)).mono ?_; rintro x w3 ⟨rfl, k, rfl⟩; rw [O1.out]) | (go_at_call 67; refine (count_yes _ g s p n d v p (HM2.out.rr.drewN _) hn4).mono ?_; rintro x w4 ⟨rfl, hR4, hk4⟩))
          have hM4 : MS F w B g s p0 d v0 hl (rb + 1) rb w4 p (n + 1) l u v S := (HM2.out.draw k).step hgl (hk4.mono (fun x hx => .inl (by simp at hx; simp [hx]))) hR4 ((HM2.out.draw k).hh.keep hk4 (fun x hx hc => by simp at hc; subst hc; exact HM2.out.lbn.2.2.2.2.2.2.2.2 hx)) (fun b hb => .inl hb) (Nat.le_refl _) (by omega) (by omega)
          have hE4 : EnvM B w4 := (HE2.out.drewN k).keep hk4 (fun x hx => by simp at hx; omega)
          clear c0 c1 c2 c3 c4 f1 r0 l0 z0
          obtain ⟨c0, c1, c2, c3, c4, f1, r0, l0, z0⟩ := hM4.cells
          have hb4 : Below B w w4 := HBEL.out _ hM4.kp
          have hB4w : B ≤ w4.heap.size := hE4.env.le
          have HARG : Hid (∀ W, Keep [] w4 W → Calls Tryz.prog 69 #[.pointer (some ⟨g, 0, none⟩)] W fun x w' => (APost f W B g s p d v hl (.ok hashP (p + 1) n) x w' ∧ Hid False) ∨ (x = Stop e q ∧ Below B w w')) := fun W hW =>
            (arg_bad s (hIH f (by omega)) (by omega) W g p (n + 1) d v hl (hE4.keep hW (by simp)) hBg (hM4.rr.keep hW (by simp)) (hM4.hh.keep hW (by simp)) hlt (by omega) hd hld e q HX.out).mono fun x w' hx => .inr ⟨hx.1, (hb4.trans (hW.below (by simp) hB4w)).trans hx.2⟩
          have HM4 := Lib.hid hM4
          clear hM4 hR4 hk4 hE4 hb4
          obtain ⟨ip, hip, ip0, ip1, ip2⟩ := info_parts infoPart
          have HIP := Lib.hid hip
          have HIP0 := Lib.hid ip0
          have HIP1 := Lib.hid ip1
          have HIP2 := Lib.hid ip2
          clear hip ip0 ip1 ip2
          have HLU : Hid (some (rb + 1) ≠ u.ownBlock) := fun hc => HM4.out.lbn.2.2.2.2.2.1 (by rw [← hc]; simp)
          have hll4 : l.length ≤ 100000 := by have := HM4.out.ll; omega
          have hB4 : w.heap.size ≤ w4.heap.size := HM4.out.kp.size
          refine Code.wp_mono (Q := OnlyP (fun c W => c = [{ v := .iface 59 (.agg #[.int .i64 e, .int .i64 q]), recovered := false }] ∧ Below B w W)) ?_ ?_
          · rintro x a W hx
            obtain ⟨c, rfl, hdf, rfl, hb⟩ := OnlyP.cases hx
            go_wp2
            rw [HRb.out]
            exact ⟨hdf, rfl, hb⟩
          go_region_law (first | (refine step_append_lies _ (by rfl) _ _ _ (by rfl) w.heap.size 47 ip _ 7 104 Tryz.underlying22 HIP.out HIP0.out HIP1.out HIP2.out rfl (by omega) u l.length (partC l vs5) (by rfl) (World.ownsRow.alloc HOW5.out _) ⟨w5.heap.size, 0, none⟩ 1 1 [.int .i64 hashP.k, .string hashP.tx, .string hashP.nm, .string hashP.ty, .string hashP.st, .int .i64 hashP.off, .slice Ac mc kc] (by rfl) (by rfl) (World.news_of_block (cs := #[.int .i64 hashP.k, .string hashP.tx, .string hashP.nm, .string hashP.ty, .string hashP.st, .int .i64 hashP.off, .slice Ac mc kc]) (t := 47) (fr := (0, 0)) (heap_alloc_new w5 _)) (by simp [Value.oneCell']) (by omega) (by unfold maxLen; omega) (by omega) (by simp; omega) (w5.heap.size + 1) (by simp) ?_; intro gg cap6 w6 hown6 hgrow hat6 hlt6; have hl6 : Blk w6 (rb + 1) 22 #[u] := Blk.grown (Blk.alloc HM5.out.hl _) hgrow HLU.out; have l6 := hl6.cell_eq (i := 0) rfl; have z6 := hl6.frozen 0; have HL6 := Lib.hid hl6; clear hl6) | (go_simp; go_at_call 69; refine (HARG.out _ (by repeat (first | exact Keep.refl _ _ | refine Keep.drew ?_ | refine Keep.alloc ?_ _))).mono ?_; rintro x w5 (⟨⟨cv, v5, S5, rfl, hL5, hc5, hS5, hR5, hH5, hV5, hK5, hpq, hq5, hn5, hat⟩, HF⟩ | ⟨rfl, hb5⟩); rotate_left; (exact ⟨rfl, rfl, hb5⟩); have hM5 : MS F w B g s p0 d v0 hl (rb + 1) rb w5 (p + 1) n l u v5 S := (HM4.out.draw 1).step hgl hK5 hR5 hH5 hV5 (by omega) hq5 hn5; obtain ⟨d0, d1, d2, d3, d4, g1, r5, l5, z5⟩ := hM5.cells; have hlb5 : rb + 1 < w5.heap.size := hM5.hl.lt; have HM5 := Lib.hid hM5; clear hM5; obtain ⟨Ac, mc, kc, rfl⟩ := liesC_form hL5; obtain ⟨vs5, hvl5, how5, hcl5⟩ := HM5.out.own; have HOW5 := Lib.hid how5; have HCL5 := Lib.hid hcl5; have HVL5 := Lib.hid hvl5; have HL5 := Lib.hid hL5; have HS5 := Lib.hid hS5; have HK5 := Lib.hid hK5; have hz5 : w4.heap.size ≤ w5.heap.size := hK5.size; clear how5 hcl5 hvl5 hL5 hS5 hK5; rw [show (hashP.cells (.slice Ac mc kc)).toArray = #[.int .i64 hashP.k, .string hashP.tx, .string hashP.nm, .string hashP.ty, .string hashP.st, .int .i64 hashP.off, .slice Ac mc kc] from rfl]))
          all_goals exact HF.out.elim
        | ok a q n2 =>
          have HX := Lib.hid hx
          clear hx
          go_upto_region 10 with (first | (go_at_call 68; refine (on_any w2 g s p n d v 123 HM2.out.rr (by omega)).mono ?_; rintro x w3 ⟨rfl, k, rfl⟩; rw [O1.out]) | (go_at_call 67; refine (count_yes _ g s p n d v p (HM2.out.rr.drewN _) hn4).mono ?_; rintro x w4 ⟨rfl, hR4, hk4⟩))
          have hM4 : MS F w B g s p0 d v0 hl (rb + 1) rb w4 p (n + 1) l u v S := (HM2.out.draw k).step hgl (hk4.mono (fun x hx => .inl (by simp at hx; simp [hx]))) hR4 ((HM2.out.draw k).hh.keep hk4 (fun x hx hc => by simp at hc; subst hc; exact HM2.out.lbn.2.2.2.2.2.2.2.2 hx)) (fun b hb => .inl hb) (Nat.le_refl _) (by omega) (by omega)
          have hE4 : EnvM B w4 := (HE2.out.drewN k).keep hk4 (fun x hx => by simp at hx; omega)
          clear c0 c1 c2 c3 c4 f1 r0 l0 z0
          obtain ⟨c0, c1, c2, c3, c4, f1, r0, l0, z0⟩ := hM4.cells
          have HARG : Hid (∀ W, Keep [] w4 W → Calls Tryz.prog 69 #[.pointer (some ⟨g, 0, none⟩)] W (APost f W B g s p d v hl (.ok a q n2))) := fun W hW =>
            arg_any s (hIH f (by omega)).weak (by omega) W g p (n + 1) d v hl (hE4.keep hW (by simp)) hBg (hM4.rr.keep hW (by simp)) (hM4.hh.keep hW (by simp)) hlt (by omega) hd hld a q n2 HX.out
          have HM4 := Lib.hid hM4
          have HK4 := Lib.hid hk4
          clear hM4 hR4 hk4 hE4
          obtain ⟨ip, hip, ip0, ip1, ip2⟩ := info_parts infoPart
          have HIP := Lib.hid hip
          have HIP0 := Lib.hid ip0
          have HIP1 := Lib.hid ip1
          have HIP2 := Lib.hid ip2
          clear hip ip0 ip1 ip2
          have HLU : Hid (some (rb + 1) ≠ u.ownBlock) := fun hc => HM4.out.lbn.2.2.2.2.2.1 (by rw [← hc]; simp)
          have hll4 : l.length ≤ 100000 := by have := HM4.out.ll; omega
          have hB4 : w.heap.size ≤ w4.heap.size := HM4.out.kp.size
          go_region_law (first | (refine step_append_lies _ (by rfl) _ _ _ (by rfl) w.heap.size 47 ip _ 7 104 Tryz.underlying22 HIP.out HIP0.out HIP1.out HIP2.out rfl (by omega) u l.length (partC l vs5) (by rfl) (World.ownsRow.alloc HOW5.out _) ⟨w5.heap.size, 0, none⟩ 1 1 [.int .i64 a.k, .string a.tx, .string a.nm, .string a.ty, .string a.st, .int .i64 a.off, .slice Ac mc kc] (by rfl) (by rfl) (World.news_of_block (cs := #[.int .i64 a.k, .string a.tx, .string a.nm, .string a.ty, .string a.st, .int .i64 a.off, .slice Ac mc kc]) (t := 47) (fr := (0, 0)) (heap_alloc_new w5 _)) (by simp [Value.oneCell']) (by omega) (by unfold maxLen; omega) (by omega) (by simp; omega) (w5.heap.size + 1) (by simp) ?_; intro gg cap6 w6 hown6 hgrow hat6 hlt6; have hl6 : Blk w6 (rb + 1) 22 #[u] := Blk.grown (Blk.alloc HM5.out.hl _) hgrow HLU.out; have l6 := hl6.cell_eq (i := 0) rfl; have z6 := hl6.frozen 0; have HL6 := Lib.hid hl6; clear hl6) | (go_simp; go_at_call 69; refine (HARG.out _ (by repeat (first | exact Keep.refl _ _ | refine Keep.drew ?_ | refine Keep.alloc ?_ _))).mono ?_; rintro x w5 ⟨cv, v5, S5, rfl, hL5, hc5, hS5, hR5, hH5, hV5, hK5, hpq, hq5, hn5, hat⟩; have hM5 : MS F w B g s p0 d v0 hl (rb + 1) rb w5 q n2 l u v5 S := (HM4.out.draw 1).step hgl hK5 hR5 hH5 hV5 (by omega) hq5 hn5; obtain ⟨d0, d1, d2, d3, d4, g1, r5, l5, z5⟩ := hM5.cells; have hlb5 : rb + 1 < w5.heap.size := hM5.hl.lt; have HM5 := Lib.hid hM5; clear hM5; obtain ⟨Ac, mc, kc, rfl⟩ := liesC_form hL5; obtain ⟨vs5, hvl5, how5, hcl5⟩ := HM5.out.own; have HOW5 := Lib.hid how5; have HCL5 := Lib.hid hcl5; have HVL5 := Lib.hid hvl5; have HL5 := Lib.hid hL5; have HS5 := Lib.hid hS5; have HK5 := Lib.hid hK5; have hz5 : w4.heap.size ≤ w5.heap.size := hK5.size; clear how5 hcl5 hvl5 hL5 hS5 hK5; rw [show (a.cells (.slice Ac mc kc)).toArray = #[.int .i64 a.k, .string a.tx, .string a.nm, .string a.ty, .string a.st, .int .i64 a.off, .slice Ac mc kc] from rfl]))
          all_goals
            have hk56 : Keep u.ownBlock.toList w5 w6 := ((Keep.refl _ w5).alloc _).grown hgrow fun k hk => .inl (by simpa using hk)
            have hks : ∀ y : Value, Keep [rb + 1] w6 (w6.setCell ⟨rb + 1, 0, none⟩ y) := fun y => (Keep.refl _ _).setCell (.inl (by simp)) _
            have hng : rb + 1 ≠ gg := by
              intro hc
              subst hc
              rcases hat6 with h | h
              · exact HLU.out h.symm
              · omega
            have hkw : Keep ((rb + 1) :: u.ownBlock.toList) w5 (w6.setCell ⟨rb + 1, 0, none⟩ (.slice (some ⟨gg, 0, none⟩) (l.length + 1) cap6)) := (hk56.mono (fun x hx => .inl (List.mem_cons_of_mem _ hx))).same ((hks _).mono (fun x hx => .inl (by simp at hx; simp [hx])))
            have hMW : MS F w B g s p0 d v0 hl (rb + 1) rb (w6.setCell ⟨rb + 1, 0, none⟩ (.slice (some ⟨gg, 0, none⟩) (l.length + 1) cap6)) q n2 (l ++ [a]) (.slice (some ⟨gg, 0, none⟩) (l.length + 1) cap6) v5 (fun b => S b ∨ S5 b) := by
              have hnlb : ∀ x, S x ∨ S5 x → w.heap.size ≤ x ∧ x < w5.heap.size ∧ x ∉ u.ownBlock.toList ∧ x ∉ v5.ownBlock.toList ∧ x ≠ rb + 1 ∧ x ≠ rb := fun x hx => by
                rcases hx with hx | hx
                · exact HM5.out.hS x hx
                · obtain ⟨h1, h2, h3⟩ := HS5.out x hx
                  have h1' : w4.heap.size ≤ x := h1
                  have := HM4.out.hl.lt
                  exact ⟨by omega, h2, fun hc => by have := (HM4.out.own.lt x hc).2; omega, h3, by omega, by omega⟩
              refine HM5.out.push hkw (Blk.set_ HL6.out 0 _) (OwnM.more (T := S5) HVL5.out (ownsRow_keep hown6 (hks _) (fun x hx hc => by simp [Value.ownBlock] at hx hc; omega)) (fun i p c hp hc => ?_) ?_) (fun b hb => ?_) (by have := HM4.out.ll; simp; omega) (fun c hc => ?_)
              · exact (HCL5.out i p c hp hc).keep hkw (fun x hx hc => by
                  rcases List.mem_cons.1 hx with h | h
                  · exact (hnlb x (.inl hc)).2.2.2.2.1 h
                  · exact (hnlb x (.inl hc)).2.2.1 h)
              · exact (HL5.out.le (by omega)).keep hkw (fun x hx hc => by
                  rcases List.mem_cons.1 hx with h | h
                  · exact (hnlb x (.inr hc)).2.2.2.2.1 h
                  · exact (hnlb x (.inr hc)).2.2.1 h)
              · obtain ⟨h1, h2, h3, h4, h5, h6⟩ := hnlb b hb
                have hz6 := hkw.size
                refine ⟨h1, by omega, fun hc => ?_, h4, h5, h6⟩
                simp [Value.ownBlock] at hc
                subst hc
                rcases hat6 with h | h
                · exact h3 (by simp [h])
                · omega
              · rcases List.mem_append.1 hc with hc | hc
                · have := HM4.out.tx c hc; omega
                · simp at hc; subst hc; omega
            have hμ : rdrAt (w6.setCell ⟨rb + 1, 0, none⟩ (.slice (some ⟨gg, 0, none⟩) (l.length + 1) cap6)) g = q := hMW.rr.at_
            have HMW := Lib.hid hMW
            clear hMW hkw hks
            go_wp2_with fail
            go_step3
            exact ⟨rfl, ⟨rfl, rfl, rfl, rfl, rfl, q, n2, f, l ++ [a], _, v5, _, HMW.out, by omega, HF3.out⟩, by rw [hμ, HMU.out]; omega⟩
      · have O1 : Hid ((byt s p == 123) = false) := by unfold Hid; simpa using h123
        have hH1 : hl.length ≤ 1000000 := by omega
        by_cases hh : byt s p = 35 ∧ topB hl = true
        · obtain ⟨h35, htop⟩ := hh
          have HF2 := Lib.hid (HF.out.symm.trans (msgF_hash h35 htop))
          have O2 : Hid ((byt s p == 35) = true) := by unfold Hid; rw [h35]; rfl
          have HT := Lib.hid htop
          rcases Nat.lt_or_ge n 1024 with hn4 | hn4
          rotate_left
          · have hn5 : n = 1024 := by have := HM2.out.n1; omega
            rw [if_pos hn5] at HF2
            subst hn5
            clear hn4 htop h35 h125 h123 HF
            go_wp2_with (first | (go_at_call_of 68 (Value.int .u8 123); refine (on_any _ g s p _ d v 123 (by exact HM2.out.rr) (by omega)).mono ?_; rintro x w3 ⟨rfl, k, rfl⟩; rw [O1.out]) | (go_at_call_of 68 (Value.int .u8 35); refine (on_any _ g s p _ d v 35 (by exact HM2.out.rr) (by omega)).mono ?_; rintro x w3 ⟨rfl, k2, rfl⟩; rw [O2.out]) | (go_at_call 70; refine (inPl_any (B := B) _ g s p _ d v hl (by exact HM2.out.rr) (by exact HM2.out.hh) hH1).mono ?_; rintro x w3 ⟨rfl, k3, rfl⟩; rw [HT.out]) | (go_at_call 67; refine (count_no _ g s p d v p (by exact HM2.out.rr)).mono ?_; rintro x w4 ⟨rfl, rfl⟩))
            rw [HF2.out]
            exact ⟨rfl, rfl, HBEL.out _ (HM2.out.kp.drewN _)⟩
          have HF3 : Hid (msgF s f d (topB hl) (l ++ [hashP]) (p + 1) (n + 1) = R) := by have := HF2.out; rw [if_neg (by omega)] at this; exact this.symm
          clear HF2 htop h35 h125 h123 HF
          go_wp2_with (first | (go_at_call_of 68 (Value.int .u8 123); refine (on_any _ g s p n d v 123 (by exact HM2.out.rr) (by omega)).mono ?_; rintro x w3 ⟨rfl, k, rfl⟩; rw [O1.out]) | (go_at_call_of 68 (Value.int .u8 35); refine (on_any _ g s p n d v 35 (by exact HM2.out.rr) (by omega)).mono ?_; rintro x w3 ⟨rfl, k2, rfl⟩; rw [O2.out]) | (go_at_call 70; refine (inPl_any (B := B) _ g s p n d v hl (by exact HM2.out.rr) (by exact HM2.out.hh) hH1).mono ?_; rintro x w3 ⟨rfl, k3, rfl⟩; rw [HT.out]) | (go_at_call 67; refine (count_yes _ g s p n d v p (by exact HM2.out.rr) hn4).mono ?_; rintro x w4 ⟨rfl, hR4, hk4⟩; have hM4 : MS F w B g s p0 d v0 hl (rb + 1) rb w4 p (n + 1) l u v S := HM2.out.step hgl ((Keep.undraw hk4).mono (fun x hx => .inl (by simp at hx; simp [hx]))) hR4 (HM2.out.hh.keep (Keep.undraw hk4) (fun x hx hc => (by simp at hc; subst hc; exact HM2.out.lbn.2.2.2.2.2.2.2.2 hx))) (fun b hb => .inl hb) (Nat.le_refl _) (by omega) (by omega); obtain ⟨d0, d1, d2, d3, d4, f2, r4, l4, z4⟩ := hM4.cells; have HM4 := Lib.hid hM4; clear hM4 hR4 hk4) | (at_builtin; refine wpList_append_part (v := u) (l := l) rfl _ _ rfl rfl HM4.out.own _ rfl hashP (.slice none 0 0) rfl rfl (LiesC.nil _ _ _) (fun x hx => ⟨(HM4.out.hS x hx).2.1, (HM4.out.hS x hx).2.2.1⟩) (by have := HM4.out.ll; omega) HM4.out.kp.size ?_; intro g2 cap2 w6 q1 q2 q3 q4; have hl6 := HM4.out.hl.keep q2 HM4.out.lbn.2.2.2.2.2.1; have hr6 := HM4.out.hr.keep q2 HM4.out.lbn.2.2.2.2.2.2.1; have hR6 := HM4.out.rr.keep q2 HM4.out.lbn.2.2.2.2.2.2.2.1; obtain ⟨e0, e1, e2, e3, e4, f6, _, _, _⟩ := hR6.cells; have l6 := hl6.cell_eq (i := 0) rfl; have r6 := hr6.cell_eq (i := 0) rfl; have z6 := hl6.frozen 0; have HL6 := Lib.hid hl6; have HR6 := Lib.hid hR6; have Q1 := Lib.hid q1; have Q2 := Lib.hid q2; have Q3 := Lib.hid q3; clear hl6 hr6 hR6 q1 q2 q3))
          have hks : ∀ y : Value, Keep [rb + 1] w6 (w6.setCell ⟨rb + 1, 0, none⟩ y) := fun y => (Keep.refl _ _).setCell (.inl (by simp)) _
          have hng : rb + 1 ≠ g2 := ownM_ne Q1.out HL6.out (by decide) |> fun h => by simpa [Value.ownBlock] using h
          have hz46 := Q2.out.size
          have hMW : MS F w B g s p0 d v0 hl (rb + 1) rb ((w6.setCell ⟨rb + 1, 0, none⟩ (.slice (some ⟨g2, 0, none⟩) (l.length + 1) cap2)).setCell ⟨g, 1, none⟩ (.int .i64 ((p : Int) + 1))) (p + 1) (n + 1) (l ++ [hashP]) (.slice (some ⟨g2, 0, none⟩) (l.length + 1) cap2) v S := by
            refine HM4.out.put (w' := w6.setCell ⟨rb + 1, 0, none⟩ (.slice (some ⟨g2, 0, none⟩) (l.length + 1) cap2)) hgl ((Q2.out.mono (fun x hx => .inl (by simp at hx ⊢; exact .inr (.inr hx)))).same ((hks _).mono (fun x hx => .inl (by simp at hx; simp [hx])))) (Blk.set_ HL6.out 0 _) (Q1.out.keep (hks _) (fun x hx hc => by simp at hx; exact (HM4.out.hS x hc).2.2.2.2.1 hx) (fun x hx hc => by simp [Value.ownBlock] at hx hc; omega)) (fun b hb => ?_) ((Keep.refl _ _).setCell (.inl (by simp)) _) ((HR6.out.keep (hks _) (by have := HM4.out.lbn.1; simp; omega)).setAt (p + 1) _ (by omega)) (by omega) (by omega) (by omega) (by have := HM4.out.ll; simp; omega) (fun c hc => ?_)
            · simp [Value.ownBlock] at hb
              subst hb
              rcases Q3.out with h | h
              · exact .inl (by simp [h])
              · exact .inr (by omega)
            · rcases List.mem_append.1 hc with hc | hc
              · have := HM4.out.tx c hc; omega
              · simp at hc; subst hc; show (0 : Nat) ≤ _; omega
          have hμ := hMW.rr.at_
          have HMW := Lib.hid hMW
          clear hMW hks
          go_step3
          exact ⟨rfl, ⟨rfl, rfl, rfl, rfl, rfl, p + 1, n + 1, f, l ++ [hashP], _, v, _, HMW.out, by omega, HF3.out⟩, by rw [hμ, HMU.out]; omega⟩
        · go_upto_region 11 with (go_at_call_of 68 (Value.int .u8 123); refine (on_any _ g s p n d v 123 (by exact HM2.out.rr) (by omega)).mono ?_; rintro x w3 ⟨rfl, k, rfl⟩; rw [O1.out])
          go_cut [62] (fun u W => u = .bool false ∧ ∃ k, W = w2.drewN k)
          case first =>
            by_cases h35 : byt s p = 35
            · have HT : Hid (topB hl = false) := by unfold Hid; cases h : topB hl with | false => rfl | true => exact absurd ⟨h35, h⟩ hh
              have O2 : Hid ((byt s p == 35) = true) := by unfold Hid; rw [h35]; rfl
              clear hh h35 h125 h123
              go_wp2_with (first | (go_at_call_of 68 (Value.int .u8 35); refine (on_any _ g s p n d v 35 (by exact HM2.out.rr) (by omega)).mono ?_; rintro x w3 ⟨rfl, k2, rfl⟩; rw [O2.out]) | (go_at_call 70; refine (inPl_any (B := B) _ g s p n d v hl (by exact HM2.out.rr) (by exact HM2.out.hh) hH1).mono ?_; rintro x w3 ⟨rfl, k3, rfl⟩; rw [HT.out]))
              go_meet
              exact ⟨rfl, _, rfl⟩
            · have O2 : Hid ((byt s p == 35) = false) := by unfold Hid; simpa using h35
              clear hh h35 h125 h123
              go_wp2_with (go_at_call_of 68 (Value.int .u8 35); refine (on_any _ g s p n d v 35 (by exact HM2.out.rr) (by omega)).mono ?_; rintro x w3 ⟨rfl, k2, rfl⟩; rw [O2.out])
              go_meet
              exact ⟨rfl, _, rfl⟩
          case rest =>
            obtain ⟨rfl, k, rfl⟩ := hcut
            clear c0 c1 c2 c3 c4 f1 r0 l0 z0
            have HM3 := Lib.hid (HM2.out.draw k)
            have HE3 := Lib.hid (HE2.out.drewN k)
            generalize w2.drewN k = w3 at *
            clear HM2 HE2 O1
            obtain ⟨c0, c1, c2, c3, c4, f1, r0, l0, z0⟩ := HM3.out.cells
            obtain ⟨tp, htp⟩ : ∃ tp : Bool, Lib.hasPrefix (s.extract p s.size).data.toList [39, 39] = tp := ⟨_, rfl⟩
            go_upto_region 15 with fail
            go_cut [83] (fun u W => u = .bool tp ∧ ∃ k, W = w3.drewN k)
            case first =>
              have hq1 : (p : Int) ≤ s.size := by omega
              have HP5 : Hid (∀ W, Calls Tryz.prog 71 #[.string (s.extract p s.size), .string ⟨#[39, 39]⟩] W fun e w' => e = .returned (.bool tp) ∧ w' = W) := fun W => (Tryz.strings_HasPrefix _ _ W).mono fun e w' ⟨h1, h2⟩ => ⟨by rw [h1, ← htp], h2⟩
              clear htp
              go_quiet ((go_at_call 71; exact Calls.quiet_of_same (HP5.out _)))
              go_wp2_with fail
              go_meet
              exact ⟨rfl, _, rfl⟩
            case rest =>
              obtain ⟨rfl, k2, rfl⟩ := hcut
              have HM4 := Lib.hid (HM3.out.draw k2)
              have HE4 := Lib.hid (HE3.out.drewN k2)
              clear c0 c1 c2 c3 c4 f1 r0 l0 z0
              generalize w3.drewN k2 = w4 at *
              clear HM3 HE3
              obtain ⟨c0, c1, c2, c3, c4, f1, r0, l0, z0⟩ := HM4.out.cells
              have HPUT : Hid (∀ (t : ByteArray) W (p' : Nat) , t.size ≤ 100000 → MS F w B g s p0 d v0 hl (rb + 1) rb W p' n l u v S → Calls Tryz.prog 66 #[.string t, .int .i64 p, .pointer (some ⟨rb + 1, 0, none⟩), .pointer (some ⟨rb, 0, none⟩)] W (PutPost F S W w.heap.size (rb + 1) g s p' d u v (putS l t p n))) := fun t W p' ht hW =>
                put_any W (rb + 1) rb g s p' n d u v l t p hW.hl hW.hr hW.rr hW.own (by have := hW.ll; have := hW.ps; omega) (fun x hx => ⟨(hW.hS x hx).2.1, fun hc => by subst hc; have := (hW.hS x hx).1; omega, (hW.hS x hx).2.2.1, (hW.hS x hx).2.2.2.2.1⟩) hW.kp.size hW.n1 (fun a ha => by have := hW.tx a ha; have := hW.ps; omega) (by omega)
              cases htp2 : tp with
              | true =>
                subst htp2
                obtain ⟨h39, h39b⟩ := two_len.1 htp
                have hF2 := HF.out.symm.trans (msgF_two h39 h39b)
                rcases rm_ways (putS l ⟨#[39]⟩ p n) with hput | ⟨e1, q1, hput⟩ | ⟨l2, o2, n2, hput⟩
                · rw [hput] at hF2; exact absurd hF2 hno
                · rw [hput] at hF2
                  have HRb : Hid (R = .bad e1 q1) := hF2
                  have HP4 := Lib.hid (HPUT.out ⟨#[39]⟩ w4 p (by decide) HM4.out)
                  rw [hput] at HP4
                  clear hF2 hput htp h39 h39b HF h125 h123 hh HPUT
                  go_wp2_with fail
                  refine HP4.out.mono ?_
                  rintro x w5 ⟨rfl, rfl⟩
                  go_wp2_with fail
                  rw [HRb.out]
                  exact ⟨rfl, rfl, HBEL.out _ HM4.out.kp⟩
                have hrest : msgF s f d (topB hl) l2 (p + 2) n2 = R := by rw [hput] at hF2; exact hF2.symm
                have hp2 : p + 2 ≤ s.size := by have := byt_lt (s := s) (p := p + 1) (by omega); omega
                have hpo := putS_ok hput HM4.out.tx HM4.out.n1
                have HPO := Lib.hid hpo
                have HF3 := Lib.hid hrest
                have HP4 := Lib.hid (HPUT.out ⟨#[39]⟩ w4 p (by decide) HM4.out)
                rw [hput] at HP4
                clear hF2 hput hrest hpo htp h39 h39b HF h125 h123 hh HPUT
                go_wp2_with fail
                refine HP4.out.mono ?_
                rintro x w5 ⟨rfl, u5, hl5, hR5, ho5, hu5, hk5⟩
                obtain ⟨d0, d1, d2, d3, d4, f5, _⟩ := hR5.cells
                have r5 := (HM4.out.hr.keep hk5 (by have := HM4.out.lbn; simp; exact ⟨this.2.2.1, by simpa using this.2.2.2.2.2.2.1⟩)).cell_eq (i := 0) rfl
                have HL5 := Lib.hid hl5
                have HR5 := Lib.hid hR5
                have HO5 := Lib.hid ho5
                have HU5 := Lib.hid hu5
                have HK5 := Lib.hid hk5
                clear hl5 hR5 ho5 hu5 hk5 HP4
                go_wp2_with fail
                have hMW : MS F w B g s p0 d v0 hl (rb + 1) rb (w5.setCell ⟨g, 1, none⟩ (.int .i64 ((p : Int) + 2))) (p + 2) n2 l2 u5 v S :=
                  HM4.out.put hgl HK5.out HL5.out HO5.out HU5.out ((Keep.refl _ _).setCell (.inl (by simp)) _) (HR5.out.setAt (p + 2) _ (by omega)) (by omega) hp2 HPO.out.2.2 (by have := HPO.out.1; have := HM4.out.ll; omega) (fun c hc => by have := HPO.out.2.1 c hc; have h1 : (⟨#[39]⟩ : ByteArray).size = 1 := rfl; omega)
                have hμ := hMW.rr.at_
                have HMW := Lib.hid hMW
                clear hMW
                go_step3
                exact ⟨rfl, ⟨rfl, rfl, rfl, rfl, rfl, p + 2, n2, f, l2, u5, v, S, HMW.out, by omega, HF3.out⟩, by rw [hμ, HMU.out]; omega⟩
              | false =>
                subst htp2
                have htwo : ¬ (byt s p = 39 ∧ byt s (p + 1) = 39) := fun h => by rw [two_len.2 h] at htp; cases htp
                clear htp
                obtain ⟨qb, hqb⟩ : ∃ qb : Bool, (byt s p == 39 && quotB s (topB hl) p) = qb := ⟨_, rfl⟩
                have HQB := Lib.hid hqb
                have HTW := Lib.hid htwo
                have HHH := Lib.hid hh
                have H125 := Lib.hid h125
                have H123 := Lib.hid h123
                clear hqb htwo hh h125 h123
                go_upto_region 18 with fail
                go_cut [104] (fun u W => u = .bool qb ∧ ∃ k, W = w4.drewN k)
                case first =>
                  by_cases h39 : byt s p = 39
                  · have O3 : Hid ((byt s p == 39) = true) := by unfold Hid; rw [h39]; rfl
                    have HQ2 : Hid (quotB s (topB hl) p = qb) := by unfold Hid; rw [← HQB.out, O3.out, Bool.true_and]
                    clear h39
                    go_wp2_with (first | (go_at_call 68; refine (on_any _ g s p n d v 39 (by exact HM4.out.rr) (by omega)).mono ?_; rintro x w5 ⟨rfl, k3, rfl⟩; rw [O3.out]) | (go_at_call 72; refine (quotes_any (B := B) _ g s p n d v hl (by exact HM4.out.rr) (by exact HM4.out.hh) hH1 hlt (by omega)).mono ?_; rintro x w5 ⟨rfl, k4, rfl⟩; rw [HQ2.out]))
                    go_meet
                    exact ⟨rfl, _, rfl⟩
                  · have O3 : Hid ((byt s p == 39) = false) := by unfold Hid; simpa using h39
                    have HQ2 : Hid (qb = false) := by unfold Hid; rw [← HQB.out, O3.out, Bool.false_and]
                    clear h39
                    go_wp2_with (go_at_call 68; refine (on_any _ g s p n d v 39 (by exact HM4.out.rr) (by omega)).mono ?_; rintro x w5 ⟨rfl, k3, rfl⟩; rw [O3.out])
                    go_meet
                    exact ⟨by rw [HQ2.out], _, rfl⟩
                case rest =>
                  obtain ⟨rfl, k3, rfl⟩ := hcut
                  have HM5 := Lib.hid (HM4.out.draw k3)
                  have HE5 := Lib.hid (HE4.out.drewN k3)
                  clear c0 c1 c2 c3 c4 f1 r0 l0 z0
                  generalize w4.drewN k3 = w5 at *
                  clear HM4 HE4
                  obtain ⟨c0, c1, c2, c3, c4, f1, r0, l0, z0⟩ := HM5.out.cells
                  cases qb with
                  | true =>
                    have hq2 := HQB.out
                    rw [Bool.and_eq_true, beq_iff_eq] at hq2
                    obtain ⟨h39, hqt⟩ := hq2
                    have hF2 := HF.out.symm.trans (msgF_quot h39 (fun h => HTW.out ⟨h39, h⟩) hqt)
                    rcases rr_ways (quotS s p) with hqs | ⟨e1, q1, hqs⟩ | ⟨tt, q, hqs⟩
                    · rw [hqs] at hF2; exact absurd hF2 hno
                    · rw [hqs] at hF2
                      have HRb : Hid (R = .bad e1 q1) := hF2
                      have HQ := Lib.hid (rquoted_any w5 g s p n d v HM5.out.rr hlt (by omega))
                      rw [hqs] at HQ
                      clear hF2 HF hqs h39 hqt HPUT HQB HTW HHH H125 H123
                      go_wp2_with fail
                      refine HQ.out.mono ?_
                      rintro x w6 ⟨rfl, hk6⟩
                      go_wp2_with fail
                      rw [HRb.out]
                      exact ⟨rfl, rfl, HBEL.out _ (HM5.out.kp.same (hk6.mono (fun x hx => .inl (by simp at hx; simp [hx]))))⟩
                    have hr1 : (putS l ⟨tt.toArray⟩ p n).then (fun l2 _ n2 => msgF s f d (topB hl) l2 q n2) = R := by rw [hqs] at hF2; exact hF2.symm
                    have hqg := quotS_ge hqs
                    rcases rm_ways (putS l ⟨tt.toArray⟩ p n) with hput | ⟨e1, q1, hput⟩ | ⟨l2, o2, n2, hput⟩
                    · rw [hput] at hr1; exact absurd hr1.symm hno
                    · rw [hput] at hr1
                      have HRb : Hid (R = .bad e1 q1) := hr1.symm
                      have hts : (⟨tt.toArray⟩ : ByteArray).size = tt.length := by show tt.toArray.size = _; simp
                      have HQ := Lib.hid (rquoted_any w5 g s p n d v HM5.out.rr hlt (by omega))
                      rw [hqs] at HQ
                      have HP4 := fun W hW => Lib.hid (HPUT.out ⟨tt.toArray⟩ W q (by rw [hts]; omega) hW)
                      rw [hput] at HP4
                      clear hF2 hput HF hqs hr1 h39 hqt HPUT HQB HTW HHH H125 H123 hts
                      go_wp2_with fail
                      refine HQ.out.mono ?_
                      rintro x w6 ⟨rfl, hR6, hk6⟩
                      have hM6 : MS F w B g s p0 d v0 hl (rb + 1) rb w6 q n l u v S := HM5.out.step hgl (hk6.mono (fun x hx => .inl (by simp at hx; simp [hx]))) hR6 (HM5.out.hh.keep hk6 (fun x hx hc => by simp at hc; subst hc; exact HM5.out.lbn.2.2.2.2.2.2.2.2 hx)) (fun b hb => .inl hb) (by omega) (by omega) HM5.out.n1
                      have HM6 := Lib.hid hM6
                      clear c0 c1 c2 c3 c4 f1 r0 l0 z0 hM6 hR6 hk6 HQ
                      obtain ⟨c0, c1, c2, c3, c4, f1, r0, l0, z0⟩ := HM6.out.cells
                      go_wp2_with fail
                      refine (HP4 w6 HM6.out).out.mono ?_
                      rintro x w7 ⟨rfl, rfl⟩
                      go_wp2_with fail
                      rw [HRb.out]
                      exact ⟨rfl, rfl, HBEL.out _ HM6.out.kp⟩
                    have hrest : msgF s f d (topB hl) l2 q n2 = R := by rw [hput] at hr1; exact hr1
                    have hts : (⟨tt.toArray⟩ : ByteArray).size = tt.length := by show tt.toArray.size = _; simp
                    have hpo := putS_ok hput HM5.out.tx HM5.out.n1
                    rw [hts] at hpo
                    have HPO := Lib.hid hpo
                    have HF3 := Lib.hid hrest
                    have HQ := Lib.hid (rquoted_any w5 g s p n d v HM5.out.rr hlt (by omega))
                    rw [hqs] at HQ
                    have HP4 := fun W hW => Lib.hid (HPUT.out ⟨tt.toArray⟩ W q (by rw [hts]; omega) hW)
                    rw [hput] at HP4
                    clear hF2 hput hrest hpo HF hqs hr1 h39 hqt HPUT HQB HTW HHH H125 H123 hts
                    go_wp2_with fail
                    refine HQ.out.mono ?_
                    rintro x w6 ⟨rfl, hR6, hk6⟩
                    have hM6 : MS F w B g s p0 d v0 hl (rb + 1) rb w6 q n l u v S := HM5.out.step hgl (hk6.mono (fun x hx => .inl (by simp at hx; simp [hx]))) hR6 (HM5.out.hh.keep hk6 (fun x hx hc => by simp at hc; subst hc; exact HM5.out.lbn.2.2.2.2.2.2.2.2 hx)) (fun b hb => .inl hb) (by omega) (by omega) HM5.out.n1
                    have HM6 := Lib.hid hM6
                    clear c0 c1 c2 c3 c4 f1 r0 l0 z0 hM6 hR6 hk6 HQ
                    obtain ⟨c0, c1, c2, c3, c4, f1, r0, l0, z0⟩ := HM6.out.cells
                    go_wp2_with fail
                    refine (HP4 w6 HM6.out).out.mono ?_
                    rintro x w7 ⟨rfl, u7, hl7, hR7, ho7, hu7, hk7⟩
                    go_wp2_with fail
                    have hMW : MS F w B g s p0 d v0 hl (rb + 1) rb w7 q n2 l2 u7 v S :=
                      HM6.out.put hgl hk7 hl7 ho7 hu7 (Keep.refl _ _) hR7 (Nat.le_refl _) (by omega) HPO.out.2.2 (by have := HPO.out.1; have := HM5.out.ll; omega) (fun c hc => by have := HPO.out.2.1 c hc; omega)
                    have hμ := hMW.rr.at_
                    have HMW := Lib.hid hMW
                    clear hMW hl7 hR7 ho7 hu7 hk7
                    go_step3
                    exact ⟨rfl, ⟨rfl, rfl, rfl, rfl, rfl, q, n2, f, l2, u7, v, S, HMW.out, by omega, HF3.out⟩, by rw [hμ, HMU.out]; omega⟩
                  | false =>
                    have hq2 : ¬ (byt s p = 39 ∧ quotB s (topB hl) p = true) := fun h => by
                      have := HQB.out
                      rw [h.1, h.2] at this
                      cases this
                    have hF2 := HF.out.symm.trans (msgF_byte hlt H125.out H123.out HHH.out HTW.out hq2)
                    have hts : (s.extract p (p + 1)).size = 1 := by rw [ByteArray.size_extract]; omega
                    have s1 : IntKind.i64.wrap ((p : Int) + 1) = (p : Int) + 1 := IntWalk.i64_in _ (by omega)
                    have s2 : (0 : Int) ≤ (p : Int) + 1 := by omega
                    have s3 : ((p : Int) + 1).toNat = p + 1 := by omega
                    have s4 : (p : Int) ≤ (p : Int) + 1 := by omega
                    have s5 : (p : Int) + 1 ≤ s.size := by omega
                    have s6 : p + 1 ≤ s.size := by omega
                    rcases rm_ways (putS l (s.extract p (p + 1)) p n) with hput | ⟨e1, q1, hput⟩ | ⟨l2, o2, n2, hput⟩
                    · rw [hput] at hF2; exact absurd hF2 hno
                    · rw [hput] at hF2
                      have HRb : Hid (R = .bad e1 q1) := hF2
                      have HP4 := fun W hW => Lib.hid (HPUT.out (s.extract p (p + 1)) W p (by rw [hts]; omega) hW)
                      rw [hput] at HP4
                      clear hF2 hput HF HPUT HQB HTW HHH H125 H123 hts hq2
                      go_wp2
                      refine region_tail 16 (by kernel_rfl) (by kernel_rfl) ?_
                      simp only [List.take_succ_cons, List.take_zero, List.drop_succ_cons, List.drop_zero]
                      repeat still_step
                      refine wpStill_nil ?_
                      clear s1 s2 s3 s4 s5
                      go_wp2_with fail
                      refine (HP4 w5.drew (by exact HM5.out.draw 1)).out.mono ?_
                      rintro x w7 ⟨rfl, rfl⟩
                      go_wp2_with fail
                      rw [HRb.out]
                      exact ⟨rfl, rfl, HBEL.out _ (HM5.out.kp.drewN 1)⟩
                    have hrest : msgF s f d (topB hl) l2 (p + 1) n2 = R := by rw [hput] at hF2; exact hF2.symm
                    have hpo := putS_ok hput HM5.out.tx HM5.out.n1
                    rw [hts] at hpo
                    have HPO := Lib.hid hpo
                    have HF3 := Lib.hid hrest
                    have HP4 := fun W hW => Lib.hid (HPUT.out (s.extract p (p + 1)) W p (by rw [hts]; omega) hW)
                    rw [hput] at HP4
                    clear hF2 hput hrest hpo HF HPUT HQB HTW HHH H125 H123 hts hq2
                    go_wp2
                    refine region_tail 16 (by kernel_rfl) (by kernel_rfl) ?_
                    simp only [List.take_succ_cons, List.take_zero, List.drop_succ_cons, List.drop_zero]
                    repeat still_step
                    refine wpStill_nil ?_
                    clear s1 s2 s3 s4 s5
                    go_wp2_with fail
                    refine (HP4 w5.drew (by exact HM5.out.draw 1)).out.mono ?_
                    rintro x w7 ⟨rfl, u7, hl7, hR7, ho7, hu7, hk7⟩
                    obtain ⟨d0, d1, d2, d3, d4, f5, _⟩ := hR7.cells
                    have r5 := (HM5.out.hr.keep (by exact Keep.undraw (k := 1) hk7) (by have := HM5.out.lbn; simp; exact ⟨this.2.2.1, by simpa using this.2.2.2.2.2.2.1⟩)).cell_eq (i := 0) rfl
                    have HL5 := Lib.hid hl7
                    have HR5 := Lib.hid hR7
                    have HO5 := Lib.hid ho7
                    have HU5 := Lib.hid hu7
                    have HK5 : Hid (Keep ([rb + 1, g] ++ u.ownBlock.toList) w5 w7) := Keep.undraw (k := 1) hk7
                    clear hl7 hR7 ho7 hu7 hk7 HP4
                    go_wp2_with fail
                    have hMW : MS F w B g s p0 d v0 hl (rb + 1) rb (w7.setCell ⟨g, 1, none⟩ (.int .i64 ((p : Int) + 1))) (p + 1) n2 l2 u7 v S :=
                      HM5.out.put hgl HK5.out HL5.out HO5.out HU5.out ((Keep.refl _ _).setCell (.inl (by simp)) _) (HR5.out.setAt (p + 1) _ (by omega)) (by omega) (by omega) HPO.out.2.2 (by have := HPO.out.1; have := HM5.out.ll; omega) (fun c hc => by have := HPO.out.2.1 c hc; omega)
                    have hμ := hMW.rr.at_
                    have HMW := Lib.hid hMW
                    clear hMW
                    go_step3
                    exact ⟨rfl, ⟨rfl, rfl, rfl, rfl, rfl, p + 1, n2, f, l2, u7, v, S, HMW.out, by omega, HF3.out⟩, by rw [hμ, HMU.out]; omega⟩
  · intro hfst
    go_wp2
    go_step3
    rename_i K hK
    refine hK _ _ (hfst.out _ _ ?_)
    refine ⟨rfl, rfl, rfl, rfl, rfl, p0, n0, F, [], .slice none 0 0, v0, fun _ => False, ⟨Blk.new' _ _ _ _ (by simp [hrb]), (Blk.new' _ _ _ _ hrb).alloc _, Blk.alloc (Blk.alloc HR.out _) _, HH.out.keep (((Keep.refl [] w).alloc _).alloc _) (by simp), OwnM.nil _ _ _ _, fun b hb => hb.elim, fun b hb => .inl hb, ((Keep.refl _ w).alloc _).alloc _, by omega, by omega, Nat.le_refl _, hp, hn, Nat.zero_le _, fun a ha => by simp at ha⟩, Nat.le_refl _, HRR.out⟩
theorem msg_allD (s : ByteArray) (hs : s.size ≤ 100000) : ∀ F, MsgD s F := fun F => by
  induction F using Nat.strongRecOn with
  | _ F ih => exact msg_stepD s F ih hs
end Go.Proofs.YtjldgcpmdcoejaaGreatDoor

namespace Go.Proofs.YtjldgcpmdcoejaaGreatDoor
open Go.RowKit

theorem ta_nil (W : World) : (Instr.typeAssert .nilIface 20 59 true).run Tryz.prog W = .ok (.tuple #[.agg #[.int .i64 0, .int .i64 0], .bool false]) W := by
  simp [Instr.typeAssert, go_sem]
theorem ta_stop (W : World) (v : Value) : (Instr.typeAssert (.iface 59 v) 20 59 true).run Tryz.prog W = .ok (.tuple #[v, .bool true]) W := by
  simp [Instr.typeAssert, go_sem]
set_option maxRecDepth 100000 in
set_option maxHeartbeats 1000000 in
theorem catch_idle (a b : Nat) (w : World) :
    CallsD Tryz.prog 35 #[.pointer (some ⟨a, 0, none⟩), .pointer (some ⟨b, 0, none⟩)] .returning w fun e u' w' => e = .returned (.tuple #[]) ∧ u' = .returning ∧ Keep [] w w' := by
  refine callsD_of_wpS Tryz.func35 rfl fun c₀ cs hu => ?_
  apply wpS_seq
  apply wpS_region
  simp [wpOpsS, go_sem, recoverD, hu, Tryz.ntmps35, Exit.thenS, ta_nil]
  apply wpS_seq
  apply wpS_region
  simp [wpOpsS, go_sem, Exit.thenS]
  refine wpS_cond (t := false) (by simp [Act.eval, Array.replicate]) ?_
  simp only [Bool.false_eq_true, if_false]
  refine wpS_of_wp (wp_skip ?_)
  cases c₀
  simp_all [bodyPostS, results, Tryz.results35]
  exact (Keep.refl _ _).alloc _
set_option maxRecDepth 100000 in
set_option maxHeartbeats 1000000 in
theorem catch_stop (a b : Nat) (er p : Int) (w : World) (va : Value) (ta tb : TypeId) (x y : Value) (ha : Blk w a ta #[va]) (hb : Blk w b tb #[x, y]) (hab : a ≠ b) :
    CallsD Tryz.prog 35 #[.pointer (some ⟨a, 0, none⟩), .pointer (some ⟨b, 0, none⟩)] (.panicking [{ v := .iface 59 (.agg #[.int .i64 er, .int .i64 p]), recovered := false }]) w fun e u' w' => e = .returned (.tuple #[]) ∧ u' = .panicking [{ v := .iface 59 (.agg #[.int .i64 er, .int .i64 p]), recovered := true }] ∧ Blk w' a ta #[.slice none 0 0] ∧ Blk w' b tb #[.int .i64 er, .int .i64 p] ∧ Keep [a, b] w w' := by
  have a0 : w.cell? ⟨a, 0, none⟩ = some va := ha.cell_eq rfl
  have b0 : w.cell? ⟨b, 0, none⟩ = some x := hb.cell_eq rfl
  have b1 : w.cell? ⟨b, 1, none⟩ = some y := hb.cell_eq rfl
  have za := ha.frozen 0
  have zb := hb.frozen 0
  have zb1 := hb.frozen 1
  have hla := ha.lt
  have hlb := hb.lt
  refine callsD_of_wpS Tryz.func35 rfl fun c₀ cs hu => ?_
  apply wpS_seq
  apply wpS_region
  simp [wpOpsS, go_sem, recoverD, hu, Tryz.ntmps35, Exit.thenS, ta_stop]
  apply wpS_seq
  apply wpS_region
  simp [wpOpsS, go_sem, Exit.thenS]
  refine wpS_cond (t := true) (by simp [Act.eval, Array.replicate]) ?_
  simp only [if_true]
  refine wpS_of_wp ?_
  have key : (#[Value.pointer (some ⟨a, 0, none⟩), Value.pointer (some ⟨b, 0, none⟩)] ++ ((((((((Array.replicate 13 undef).setIfInBounds 3 (Value.iface 59 (.agg #[.int .i64 er, .int .i64 p]))).setIfInBounds 4 (Value.tuple #[.agg #[.int .i64 er, .int .i64 p], .bool true])).setIfInBounds 2 (Value.tuple #[.agg #[.int .i64 er, .int .i64 p], .bool true])).setIfInBounds 5 (Value.agg #[.int .i64 er, .int .i64 p])).setIfInBounds 6 (Value.bool true)).setIfInBounds 0 (Value.pointer (some ⟨w.heap.size, 0, none⟩))).setIfInBounds 1 (Value.bool true)).setIfInBounds 7 (Value.bool true) : Array Value) = #[.pointer (some ⟨a, 0, none⟩), .pointer (some ⟨b, 0, none⟩), .pointer (some ⟨w.heap.size, 0, none⟩), .bool true, .tuple #[.agg #[.int .i64 er, .int .i64 p], .bool true], .iface 59 (.agg #[.int .i64 er, .int .i64 p]), .tuple #[.agg #[.int .i64 er, .int .i64 p], .bool true], .agg #[.int .i64 er, .int .i64 p], .bool true, .bool true, undef, undef, undef, undef, undef] := by kernel_rfl
  rw [key]
  clear key
  go_region
  have hA : Blk ((((w.setCell ⟨a, 0, none⟩ (.slice none 0 0)).setCell ⟨b, 0, none⟩ (.int .i64 er)).setCell ⟨b, 1, none⟩ (.int .i64 p)).alloc (.cells #[.int .i64 er, .int .i64 p] 59)).drew a ta #[.slice none 0 0] :=
    (((Blk.set_ ha 0 _).far (p := ⟨b, 0, none⟩) hab _).far (p := ⟨b, 1, none⟩) hab _).alloc _
  have hB : Blk ((((w.setCell ⟨a, 0, none⟩ (.slice none 0 0)).setCell ⟨b, 0, none⟩ (.int .i64 er)).setCell ⟨b, 1, none⟩ (.int .i64 p)).alloc (.cells #[.int .i64 er, .int .i64 p] 59)).drew b tb #[.int .i64 er, .int .i64 p] :=
    (Blk.set_ (Blk.set_ (hb.far (p := ⟨a, 0, none⟩) (fun h => hab h.symm) _) 0 _) 1 _).alloc _
  have hK : Keep [a, b] w ((((w.setCell ⟨a, 0, none⟩ (.slice none 0 0)).setCell ⟨b, 0, none⟩ (.int .i64 er)).setCell ⟨b, 1, none⟩ (.int .i64 p)).alloc (.cells #[.int .i64 er, .int .i64 p] 59)).drew :=
    ((((((Keep.refl [a, b] w).setCell (p := ⟨a, 0, none⟩) (.inl (by simp)) _).setCell (p := ⟨b, 0, none⟩) (.inl (by simp)) _).setCell (p := ⟨b, 1, none⟩) (.inl (by simp)) _).alloc _).drew)
  generalize ((((w.setCell ⟨a, 0, none⟩ (.slice none 0 0)).setCell ⟨b, 0, none⟩ (.int .i64 er)).setCell ⟨b, 1, none⟩ (.int .i64 p)).alloc (.cells #[.int .i64 er, .int .i64 p] 59)).drew = W at *
  clear a0 b0 b1 za zb zb1 hla hlb ha hb
  cases c₀
  simp only [bodyPostS, results, Tryz.results35]
  exact ⟨trivial, _, rfl, .tuple #[], by simp, rfl, rfl, hA, hB, hK⟩

set_option maxRecDepth 100000 in
set_option maxHeartbeats 4000000 in
/-- Parse, of a text that is read. -/
theorem parse_ok {B : Nat} (s : ByteArray) (w : World) (hE : EnvM B w) (hs : s.size ≤ 4096) (hb : brk s < 0) (l : List PT) (n : Nat) (hm : msgF s (s.size + 1) 0 false [] 0 0 = .ok l s.size n) :
    Calls Tryz.prog 18 #[.string s] w fun e w' => ∃ u S, e = .returned (.tuple #[u, .agg #[.int .i64 0, .int .i64 0]]) ∧ Lies (s.size + 2) S w' u l ∧ (∀ b, S b → w.heap.size ≤ b ∧ b < w'.heap.size) ∧ Keep [] w w' := by
  have HE := Lib.hid hE
  have hmf : ∀ (fn : Fn) (first cap : Array Value) (w : World), (Instr.makeFunc fn first cap).run Tryz.prog w = .ok (.func fn first cap) w := fun _ _ _ _ => rfl
  have HC : Hid (∀ W, Calls Tryz.prog 30 #[.string s] W fun e w' => e = .returned (.agg #[.int .i64 0, .int .i64 0]) ∧ Below W.heap.size W w') := fun W => (check_any s W (by omega)).mono fun e w' ⟨h1, h2⟩ => ⟨by rw [h1]; unfold spotErr spotAt; rw [if_pos hb, if_pos hb], h2⟩
  have HM := Lib.hid hm
  have e1 : ¬ (4096 : Int) < s.size := by omega
  clear hE hb hm
  go_enter_defers Tryz.func18, Tryz.ntmps18
  go_wp2_with fail
  refine (HC.out _).mono ?_
  rintro e w1 ⟨rfl, hb1⟩
  have hA1 := ((Blk.new w 22 #[.slice none 0 0]).alloc (.cells #[.int .i64 0, .int .i64 0] 36)).below hb1 (by simp; omega)
  have hB1 := (Blk.new' (w.alloc (.cells #[.slice none 0 0] 22)) 36 #[.int .i64 0, .int .i64 0] (w.heap.size + 1) (by simp)).below hb1 (by simp)
  have hK1 : Keep [] w w1 := (((Keep.refl [] w).alloc _).alloc _).below_ge hb1 (by simp; omega)
  obtain ⟨a, ha⟩ : ∃ a, w.heap.size = a := ⟨_, rfl⟩
  rw [ha] at hA1 hB1 ⊢
  have HA := Lib.hid ha
  have HA1 := Lib.hid hA1
  have HB1 := Lib.hid hB1
  have HK1 := Lib.hid hK1
  have hz1 : a + 1 < w1.heap.size := hB1.lt
  clear hb1 hA1 hB1 hK1 ha
  go_wp2_with fail
  have hR2 : Rr ((w1.alloc (.cells #[.int .i64 0, .int .i64 0] 36)).alloc (.cells #[.string s, .int .i64 0, .int .i64 0, .int .i64 0, .slice none 0 0] 64)) (w1.heap.size + 1) s 0 0 0 (.slice none 0 0) := Blk.new' _ _ _ _ (by simp)
  have hK2 : Keep [] w1 ((w1.alloc (.cells #[.int .i64 0, .int .i64 0] 36)).alloc (.cells #[.string s, .int .i64 0, .int .i64 0, .int .i64 0, .slice none 0 0] 64)) := ((Keep.refl [] w1).alloc _).alloc _
  generalize (w1.alloc (.cells #[.int .i64 0, .int .i64 0] 36)).alloc (.cells #[.string s, .int .i64 0, .int .i64 0, .int .i64 0, .slice none 0 0] 64) = W2 at *
  have hE2 : EnvM B W2 := (HE.out.keep HK1.out (by simp)).keep hK2 (by simp)
  have hMC := msg_all s (by omega) (s.size + 1) W2 B (w1.heap.size + 1) 0 0 0 (.slice none 0 0) [] hE2 (by have := HE.out.env.le; have := HK1.out.size; omega) hR2 (Hs.nil _ _) (Nat.zero_le _) (by omega) (by omega) rfl (by rw [show topB [] = false from rfl, HM.out]; simp) (by rw [show topB [] = false from rfl, HM.out]; simp)
  rw [show topB [] = false from rfl, HM.out] at hMC
  have HMC := Lib.hid hMC
  have HK2 := Lib.hid hK2
  have hgl := hR2.lt
  generalize hgg : w1.heap.size + 1 = g at *
  have HG := Lib.hid hgg
  clear hgg hMC hK2 hE2 hR2 HC
  refine HMC.out.mono ?_
  rintro x w3 ⟨u, v3, S, rfl, hL3, hS3, hR3, _, _, hk3, _⟩
  have hk23 : Keep [g] w1 w3 := ((HK2.out).mono (fun x hx => by cases hx)).same (hk3.mono (fun x hx => .inl (by simpa [Value.ownBlock] using hx)))
  have hA3 := HA1.out.keep hk23 (by have := HG.out; simp; omega)
  have hB3 := HB1.out.keep hk23 (by have := HG.out; simp; omega)
  obtain ⟨A3, m3, k3, rfl⟩ := hL3.form
  obtain ⟨c0, c1, _⟩ := hR3.cells
  have a0 : w3.cell? ⟨a, 0, none⟩ = some (.slice none 0 0) := hA3.cell_eq rfl
  have b0 : w3.cell? ⟨a + 1, 0, none⟩ = some (.int .i64 0) := hB3.cell_eq rfl
  have b1 : w3.cell? ⟨a + 1, 1, none⟩ = some (.int .i64 0) := hB3.cell_eq rfl
  have za := hA3.frozen 0
  have zb := hB3.frozen 0
  have zb1 := hB3.frozen 1
  have HL3 := Lib.hid hL3
  have HS3 := Lib.hid hS3
  have HA3 := Lib.hid hA3
  have HB3 := Lib.hid hB3
  have HK3 := Lib.hid hk23
  have hga : a + 1 < g := by have := HG.out; omega
  clear hL3 hS3 hR3 hk3 hk23 hA3 hB3 HMC HK2
  go_wp2_with fail
  refine leaves_cons (f := 35) (args := #[.pointer (some ⟨a, 0, none⟩), .pointer (some ⟨a + 1, 0, none⟩)]) (by simp) (by simp [go_sem]) ?_
  refine (catch_idle a (a + 1) _).mono ?_
  rintro e u' w4 ⟨rfl, rfl, hk4⟩
  have hkd : Keep [a, a + 1] w3 ((((w3.setCell ⟨a, 0, none⟩ (.slice A3 m3 k3)).setCell ⟨a, 0, none⟩ (.slice A3 m3 k3)).setCell ⟨a + 1, 0, none⟩ (.int .i64 0)).setCell ⟨a + 1, 1, none⟩ (.int .i64 0)) :=
    ((((Keep.refl [a, a + 1] w3).setCell (p := ⟨a, 0, none⟩) (.inl (by simp)) _).setCell (p := ⟨a, 0, none⟩) (.inl (by simp)) _).setCell (p := ⟨a + 1, 0, none⟩) (.inl (by simp)) _).setCell (p := ⟨a + 1, 1, none⟩) (.inl (by simp)) _
  have hAD : Blk ((((w3.setCell ⟨a, 0, none⟩ (.slice A3 m3 k3)).setCell ⟨a, 0, none⟩ (.slice A3 m3 k3)).setCell ⟨a + 1, 0, none⟩ (.int .i64 0)).setCell ⟨a + 1, 1, none⟩ (.int .i64 0)) a 22 #[.slice A3 m3 k3] :=
    ((Blk.set_ (Blk.set_ HA3.out 0 _) 0 _).far (p := ⟨a + 1, 0, none⟩) (by simp) _).far (p := ⟨a + 1, 1, none⟩) (by simp) _
  have hBD : Blk ((((w3.setCell ⟨a, 0, none⟩ (.slice A3 m3 k3)).setCell ⟨a, 0, none⟩ (.slice A3 m3 k3)).setCell ⟨a + 1, 0, none⟩ (.int .i64 0)).setCell ⟨a + 1, 1, none⟩ (.int .i64 0)) (a + 1) 36 #[.int .i64 0, .int .i64 0] :=
    Blk.set_ (Blk.set_ ((HB3.out.far (p := ⟨a, 0, none⟩) (by simp) _).far (p := ⟨a, 0, none⟩) (by simp) _) 0 _) 1 _
  have hA4 := hAD.keep hk4 (by simp)
  have hB4 := hBD.keep hk4 (by simp)
  have hk34 := hkd.nil hk4
  clear hk4 hkd hAD hBD a0 b0 b1 za zb zb1 c0 c1
  have a0 : w4.cell? ⟨a, 0, none⟩ = some (.slice A3 m3 k3) := hA4.cell_eq rfl
  have b0 : w4.cell? ⟨a + 1, 0, none⟩ = some (.int .i64 0) := hB4.cell_eq rfl
  have b1 : w4.cell? ⟨a + 1, 1, none⟩ = some (.int .i64 0) := hB4.cell_eq rfl
  have hz4 := hk34.size
  have hz3 := HK3.out.size
  have hS4 : ∀ b, S b → w.heap.size ≤ b ∧ b < w4.heap.size ∧ b ≠ a ∧ b ≠ a + 1 := fun b hb => by
    obtain ⟨h1, h2, _⟩ := HS3.out b hb
    have := HA.out
    exact ⟨by omega, by omega, by omega, by omega⟩
  simp [Leaves, settle, results, Tryz.results18, go_sem, a0, b0, b1]
  refine ⟨S, HL3.out.keep hk34 (fun x hx hc => ?_), fun b hb => ⟨(hS4 b hb).1, (hS4 b hb).2.1⟩, ?_⟩
  · have := hS4 x hc
    simp at hx
    omega
  · refine ((HK1.out.trans HK3.out (fun x hx => .inr ?_)).trans hk34 (fun x hx => .inr ?_))
    · simp at hx; have := HA.out; omega
    · simp at hx; have := HA.out; omega
end Go.Proofs.YtjldgcpmdcoejaaGreatDoor

namespace Go.Proofs.YtjldgcpmdcoejaaGreatDoor
open Go.RowKit

set_option maxRecDepth 100000 in
set_option maxHeartbeats 4000000 in
/-- Parse, of a text that is too long, or that is broken. -/
theorem parse_early {B : Nat} (s : ByteArray) (w : World) (_hE : EnvM B w) (e : Int) (q : Int) (hm : (4096 < s.size ∧ e = 3 ∧ q = 0) ∨ (s.size ≤ 4096 ∧ ¬ brk s < 0 ∧ e = 6 ∧ q = brk s)) :
    Calls Tryz.prog 18 #[.string s] w fun x w' => x = .returned (.tuple #[.slice none 0 0, .agg #[.int .i64 e, .int .i64 q]]) ∧ Keep [] w w' := by
  have hmf : ∀ (fn : Fn) (first cap : Array Value) (w : World), (Instr.makeFunc fn first cap).run Tryz.prog w = .ok (.func fn first cap) w := fun _ _ _ _ => rfl
  rcases hm with ⟨h1, rfl, rfl⟩ | ⟨h1, hb, rfl, hq⟩
  · have e1 : (4096 : Int) < s.size := by omega
    clear h1
    go_enter_defers Tryz.func18, Tryz.ntmps18
    go_wp2_with fail
    simp [bodyPostD, Leaves, results, Tryz.results18, go_sem]
    exact ((Keep.refl [] w).alloc _).alloc _
  · have HC : Hid (∀ W, Calls Tryz.prog 30 #[.string s] W fun e w' => e = .returned (.agg #[.int .i64 6, .int .i64 q]) ∧ Below W.heap.size W w') := fun W => (check_any s W (by omega)).mono fun e w' ⟨h1, h2⟩ => ⟨by rw [h1]; unfold spotErr spotAt; rw [if_neg hb, if_neg hb, hq], h2⟩
    have e1 : ¬ (4096 : Int) < s.size := by omega
    clear h1 hb hq
    go_enter_defers Tryz.func18, Tryz.ntmps18
    go_wp2_with fail
    refine (HC.out _).mono ?_
    rintro e w1 ⟨rfl, hb1⟩
    have hA1 := ((Blk.new w 22 #[.slice none 0 0]).alloc (.cells #[.int .i64 0, .int .i64 0] 36)).below hb1 (by simp; omega)
    have hB1 := (Blk.new' (w.alloc (.cells #[.slice none 0 0] 22)) 36 #[.int .i64 0, .int .i64 0] (w.heap.size + 1) (by simp)).below hb1 (by simp)
    have hK1 : Keep [] w w1 := (((Keep.refl [] w).alloc _).alloc _).below_ge hb1 (by simp; omega)
    obtain ⟨a, ha⟩ : ∃ a, w.heap.size = a := ⟨_, rfl⟩
    rw [ha] at hA1 hB1 ⊢
    have HA := Lib.hid ha
    have HA1 := Lib.hid hA1
    have HB1 := Lib.hid hB1
    have HK1 := Lib.hid hK1
    have hz1 : a + 1 < w1.heap.size := hB1.lt
    clear hb1 hA1 hB1 hK1 ha
    go_wp2_with fail
    have hA2 : Blk (w1.alloc (.cells #[.int .i64 6, .int .i64 q] 36)) a 22 #[.slice none 0 0] := HA1.out.alloc _
    have hB2 : Blk (w1.alloc (.cells #[.int .i64 6, .int .i64 q] 36)) (a + 1) 36 #[.int .i64 0, .int .i64 0] := HB1.out.alloc _
    have hC2 : Blk (w1.alloc (.cells #[.int .i64 6, .int .i64 q] 36)) w1.heap.size 36 #[.int .i64 6, .int .i64 q] := Blk.new _ _ _
    have hK2 : Keep [] w (w1.alloc (.cells #[.int .i64 6, .int .i64 q] 36)) := HK1.out.alloc _
    generalize w1.alloc (.cells #[.int .i64 6, .int .i64 q] 36) = W2 at *
    have a0 : W2.cell? ⟨a, 0, none⟩ = some (.slice none 0 0) := hA2.cell_eq rfl
    have b0 : W2.cell? ⟨a + 1, 0, none⟩ = some (.int .i64 0) := hB2.cell_eq rfl
    have b1 : W2.cell? ⟨a + 1, 1, none⟩ = some (.int .i64 0) := hB2.cell_eq rfl
    have c0 : W2.cell? ⟨w1.heap.size, 0, none⟩ = some (.int .i64 6) := hC2.cell_eq rfl
    have c1 : W2.cell? ⟨w1.heap.size, 1, none⟩ = some (.int .i64 q) := hC2.cell_eq rfl
    have za := hA2.frozen 0
    have zb := hB2.frozen 0
    have zb1 := hB2.frozen 1
    have HK2 := Lib.hid hK2
    have HA2 := Lib.hid hA2
    have HB2 := Lib.hid hB2
    clear hA2 hB2 hC2 hK2
    go_wp2_with fail
    go_region
    have hA3 : Blk (((W2.setCell ⟨a, 0, none⟩ (.slice none 0 0)).setCell ⟨a + 1, 0, none⟩ (.int .i64 6)).setCell ⟨a + 1, 1, none⟩ (.int .i64 q)).drew a 22 #[.slice none 0 0] := ((Blk.set_ HA2.out 0 _).far (p := ⟨a + 1, 0, none⟩) (by simp) _).far (p := ⟨a + 1, 1, none⟩) (by simp) _
    have hB3 : Blk (((W2.setCell ⟨a, 0, none⟩ (.slice none 0 0)).setCell ⟨a + 1, 0, none⟩ (.int .i64 6)).setCell ⟨a + 1, 1, none⟩ (.int .i64 q)).drew (a + 1) 36 #[.int .i64 6, .int .i64 q] := Blk.set_ (Blk.set_ (HB2.out.far (p := ⟨a, 0, none⟩) (by simp) _) 0 _) 1 _
    have hK3 : Keep [] w (((W2.setCell ⟨a, 0, none⟩ (.slice none 0 0)).setCell ⟨a + 1, 0, none⟩ (.int .i64 6)).setCell ⟨a + 1, 1, none⟩ (.int .i64 q)).drew := (((HK2.out.setCell (p := ⟨a, 0, none⟩) (.inr (by have := HA.out; simp; omega)) _).setCell (p := ⟨a + 1, 0, none⟩) (.inr (by have := HA.out; simp; omega)) _).setCell (p := ⟨a + 1, 1, none⟩) (.inr (by have := HA.out; simp; omega)) _).drew
    generalize (((W2.setCell ⟨a, 0, none⟩ (.slice none 0 0)).setCell ⟨a + 1, 0, none⟩ (.int .i64 6)).setCell ⟨a + 1, 1, none⟩ (.int .i64 q)).drew = W3 at *
    clear a0 b0 b1 c0 c1 za zb zb1
    have a0 : W3.cell? ⟨a, 0, none⟩ = some (.slice none 0 0) := hA3.cell_eq rfl
    have b0 : W3.cell? ⟨a + 1, 0, none⟩ = some (.int .i64 6) := hB3.cell_eq rfl
    have b1 : W3.cell? ⟨a + 1, 1, none⟩ = some (.int .i64 q) := hB3.cell_eq rfl
    go_wp2_with fail
    simp [bodyPostD, Leaves, results, Tryz.results18, go_sem, a0, b0, b1]
    exact hK3
set_option maxRecDepth 100000 in
set_option maxHeartbeats 4000000 in
/-- Parse, of a text that is not read. -/
theorem parse_fail {B : Nat} (s : ByteArray) (w : World) (hE : EnvM B w) (hs : s.size ≤ 4096) (hb : brk s < 0) (e : Int) (q : Nat) (hm : msgF s (s.size + 1) 0 false [] 0 0 = .bad e q ∨ ∃ l n, msgF s (s.size + 1) 0 false [] 0 0 = .ok l q n ∧ q < s.size ∧ e = 290) :
    Calls Tryz.prog 18 #[.string s] w fun x w' => x = .returned (.tuple #[.slice none 0 0, .agg #[.int .i64 e, .int .i64 q]]) ∧ Keep [] w w' := by
  have HE := Lib.hid hE
  have hmf : ∀ (fn : Fn) (first cap : Array Value) (w : World), (Instr.makeFunc fn first cap).run Tryz.prog w = .ok (.func fn first cap) w := fun _ _ _ _ => rfl
  have HC : Hid (∀ W, Calls Tryz.prog 30 #[.string s] W fun e w' => e = .returned (.agg #[.int .i64 0, .int .i64 0]) ∧ Below W.heap.size W w') := fun W => (check_any s W (by omega)).mono fun e w' ⟨h1, h2⟩ => ⟨by rw [h1]; unfold spotErr spotAt; rw [if_pos hb, if_pos hb], h2⟩
  have HM := Lib.hid hm
  have e1 : ¬ (4096 : Int) < s.size := by omega
  have hno : msgF s (s.size + 1) 0 false [] 0 0 ≠ .out := by
    rcases hm with h | ⟨l, n, h, _⟩ <;> rw [h] <;> simp
  clear hE hb hm
  go_enter_defers Tryz.func18, Tryz.ntmps18
  go_wp2_with fail
  refine (HC.out _).mono ?_
  rintro x w1 ⟨rfl, hb1⟩
  have hA1 := ((Blk.new w 22 #[.slice none 0 0]).alloc (.cells #[.int .i64 0, .int .i64 0] 36)).below hb1 (by simp; omega)
  have hB1 := (Blk.new' (w.alloc (.cells #[.slice none 0 0] 22)) 36 #[.int .i64 0, .int .i64 0] (w.heap.size + 1) (by simp)).below hb1 (by simp)
  have hK1 : Keep [] w w1 := (((Keep.refl [] w).alloc _).alloc _).below_ge hb1 (by simp; omega)
  obtain ⟨a, ha⟩ : ∃ a, w.heap.size = a := ⟨_, rfl⟩
  rw [ha] at hA1 hB1 ⊢
  have HA := Lib.hid ha
  have HA1 := Lib.hid hA1
  have HB1 := Lib.hid hB1
  have HK1 := Lib.hid hK1
  have hz1 : a + 1 < w1.heap.size := hB1.lt
  clear hb1 hA1 hB1 hK1 ha
  go_wp2_with fail
  have hR2 : Rr ((w1.alloc (.cells #[.int .i64 0, .int .i64 0] 36)).alloc (.cells #[.string s, .int .i64 0, .int .i64 0, .int .i64 0, .slice none 0 0] 64)) (w1.heap.size + 1) s 0 0 0 (.slice none 0 0) := Blk.new' _ _ _ _ (by simp)
  have hK2 : Keep [] w1 ((w1.alloc (.cells #[.int .i64 0, .int .i64 0] 36)).alloc (.cells #[.string s, .int .i64 0, .int .i64 0, .int .i64 0, .slice none 0 0] 64)) := ((Keep.refl [] w1).alloc _).alloc _
  have hz2 : w1.heap.size ≤ ((w1.alloc (.cells #[.int .i64 0, .int .i64 0] 36)).alloc (.cells #[.string s, .int .i64 0, .int .i64 0, .int .i64 0, .slice none 0 0] 64)).heap.size := hK2.size
  generalize (w1.alloc (.cells #[.int .i64 0, .int .i64 0] 36)).alloc (.cells #[.string s, .int .i64 0, .int .i64 0, .int .i64 0, .slice none 0 0] 64) = W2 at *
  have hE2 : EnvM w1.heap.size W2 := ((HE.out.keep HK1.out (by simp)).keep hK2 (by simp)).raise (by have := HE.out.env.le; have := HK1.out.size; omega) hz2
  have hMC := msg_allD s (by omega) (s.size + 1) W2 w1.heap.size (w1.heap.size + 1) 0 0 0 (.slice none 0 0) [] hE2 (by omega) hR2 (Hs.nil _ _) (Nat.zero_le _) (by omega) (by omega) rfl (by rw [show topB [] = false from rfl]; exact hno)
  rw [show topB [] = false from rfl] at hMC
  have HMC := Lib.hid hMC
  have HK2 := Lib.hid hK2
  have hgl := hR2.lt
  generalize hgg : w1.heap.size + 1 = g at *
  have HG := Lib.hid hgg
  clear hgg hMC hK2 hE2 hR2 HC hno
  rcases HM.out with hm | ⟨l, n, hm, hq, rfl⟩
  · rw [hm] at HMC
    clear hm HM
    refine HMC.out.mono ?_
    rintro x w3 ⟨rfl, hb3⟩
    have hA3 := HA1.out.keep HK2.out (by simp) |>.below hb3 (by omega)
    have hB3 := HB1.out.keep HK2.out (by simp) |>.below hb3 (by omega)
    have hK3 : Keep [] w w3 := (HK1.out.nil HK2.out).below_ge hb3 (by have := HK1.out.size; omega)
    have HA3 := Lib.hid hA3
    have HB3 := Lib.hid hB3
    have HK3 := Lib.hid hK3
    clear hA3 hB3 hK3 hb3 HMC
    go_wp2_with fail
    refine leaves_cons (f := 35) (args := #[.pointer (some ⟨a, 0, none⟩), .pointer (some ⟨a + 1, 0, none⟩)]) (by simp) (by simp [go_sem]) ?_
    refine (catch_stop a (a + 1) _ q _ _ _ _ _ _ HA3.out HB3.out (by simp)).mono ?_
    rintro x u' w4 ⟨rfl, rfl, hA4, hB4, hk4⟩
    have a0 : w4.cell? ⟨a, 0, none⟩ = some (.slice none 0 0) := hA4.cell_eq rfl
    have b0 : w4.cell? ⟨a + 1, 0, none⟩ = some (.int .i64 _) := hB4.cell_eq rfl
    have b1 : w4.cell? ⟨a + 1, 1, none⟩ = some (.int .i64 q) := hB4.cell_eq rfl
    simp [Leaves, settle, results, Tryz.results18, go_sem, a0, b0, b1]
    exact HK3.out.trans hk4 (fun x hx => .inr (by have := HA.out; simp at hx; omega))
  · rw [hm] at HMC
    clear hm HM
    refine HMC.out.mono ?_
    rintro x w3 ⟨u, v3, S, rfl, hL3, hS3, hR3, _, _, hk3, _⟩
    have hk23 : Keep [g] w1 w3 := ((HK2.out).mono (fun x hx => by cases hx)).same (hk3.mono (fun x hx => .inl (by simpa [Value.ownBlock] using hx)))
    have hA3 := HA1.out.keep hk23 (by have := HG.out; simp; omega)
    have hB3 := HB1.out.keep hk23 (by have := HG.out; simp; omega)
    obtain ⟨A3, m3, k3, rfl⟩ := hL3.form
    obtain ⟨c0, c1, _⟩ := hR3.cells
    have a0 : w3.cell? ⟨a, 0, none⟩ = some (.slice none 0 0) := hA3.cell_eq rfl
    have za := hA3.frozen 0
    have hK3 : Keep [] w w3 := HK1.out.trans hk23 (fun x hx => .inr (by have := HK1.out.size; have := HG.out; simp at hx; omega))
    have HA3 := Lib.hid hA3
    have HB3 := Lib.hid hB3
    have HK3 := Lib.hid hK3
    have hga : a ≠ g := by have := HG.out; omega
    have hq' : (q : Int) < s.size := by omega
    clear hL3 hS3 hR3 hk3 hk23 hA3 hB3 hK3 HMC HK2
    go_wp2_with (go_at_call 37; refine (rfail_any _ _ _ _).mono ?_; rintro x w5 ⟨rfl, rfl⟩)
    have hA5 : Blk (w3.setCell ⟨a, 0, none⟩ (.slice A3 m3 k3)) a 22 #[.slice A3 m3 k3] := Blk.set_ HA3.out 0 _
    have hB5 : Blk (w3.setCell ⟨a, 0, none⟩ (.slice A3 m3 k3)) (a + 1) 36 #[.int .i64 0, .int .i64 0] := HB3.out.far (p := ⟨a, 0, none⟩) (by simp) _
    have hK5 : Keep [] w (w3.setCell ⟨a, 0, none⟩ (.slice A3 m3 k3)) := HK3.out.setCell (p := ⟨a, 0, none⟩) (.inr (by have := HA.out; simp; omega)) _
    refine leaves_cons (f := 35) (args := #[.pointer (some ⟨a, 0, none⟩), .pointer (some ⟨a + 1, 0, none⟩)]) (by simp) (by simp [go_sem]) ?_
    refine (catch_stop a (a + 1) _ q _ _ _ _ _ _ hA5 hB5 (by simp)).mono ?_
    rintro x u' w4 ⟨rfl, rfl, hA4, hB4, hk4⟩
    have a0 : w4.cell? ⟨a, 0, none⟩ = some (.slice none 0 0) := hA4.cell_eq rfl
    have b0 : w4.cell? ⟨a + 1, 0, none⟩ = some (.int .i64 _) := hB4.cell_eq rfl
    have b1 : w4.cell? ⟨a + 1, 1, none⟩ = some (.int .i64 q) := hB4.cell_eq rfl
    simp [Leaves, settle, results, Tryz.results18, go_sem, a0, b0, b1]
    exact hK5.trans hk4 (fun x hx => .inr (by have := HA.out; simp at hx; omega))
end Go.Proofs.YtjldgcpmdcoejaaGreatDoor
