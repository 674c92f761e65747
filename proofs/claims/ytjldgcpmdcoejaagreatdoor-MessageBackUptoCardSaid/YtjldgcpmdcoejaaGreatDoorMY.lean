/- Walks: choice of the reader of messages. -/
import Derived.Test.YtjldgcpmdcoejaaGreatDoorMD
import Derived.Deep.RegionLawGrows
namespace Go.Proofs.YtjldgcpmdcoejaaGreatDoor
open Go.RowKit

theorem infoBool : (Tryz.prog.info? 4).map (fun i => (i.zero, i.size, i.bytes)) = some (some (.bool false), 1, 1) := by kernel_rfl
/-- append of one truth value, made just now, to the reader's slice. -/
theorem wpList_append_hs {ops : Array Oper} {rest : List Oper} {o : Oper} {a : Act} {Q : Exit → Act → World → Prop} (hgd : o.guard = none) (s x : Operand)
    (ho : o.op = .call { callee := .builtin .append, args := #[s, x], argTypes := #[62, 62] })
    {w0 : World} {B : Nat} {v : Value} {hs : List Bool} (he : a.eval s = v) (hown : Hs B w0 v hs) (n : Nat) (hn : w0.heap.size = n) (b : Bool) (hx : a.eval x = .slice (some ⟨n, 0, none⟩) 1 1)
    (hlen : hs.length ≤ 1000000) (hB : B ≤ w0.heap.size)
    (h : ∀ g cap w', Hs B w' (.slice (some ⟨g, 0, none⟩) (hs.length + 1) cap) (hs ++ [b]) → Keep v.ownBlock.toList w0 w' → (v.ownBlock = some g ∨ g = n + 1) → g < w'.heap.size → wpList Tryz.prog ops Q rest (a.put o.dst (.slice (some ⟨g, 0, none⟩) (hs.length + 1) cap)) w') :
    wpList Tryz.prog ops Q (o :: rest) a (w0.alloc (.cells #[.bool b] 4)) := by
  obtain ⟨i0, hi, hz0, hz1, hz2⟩ := info_parts infoBool
  refine wpList_append_lies _ hgd s x 62 ho B 4 i0 _ 1 1 Tryz.underlying62 hi hz0 hz1 hz2 rfl (by decide) v hs.length (hs.map Value.bool) he (World.ownsRow.alloc hown _) ⟨n, 0, none⟩ 1 1 [.bool b] hx rfl (new_cells w0 n hn [.bool b] _) ?_ (by decide) (by unfold maxLen; omega) (by omega) (by simp; omega) (n + 1) (by simp [hn]) ?_
  · intro u hu
    simp only [List.mem_cons, List.mem_nil_iff, or_false] at hu
    rw [hu]; rfl
  · intro g cap w' h1 h2 h3 h4
    refine h g cap w' ?_ (((Keep.refl _ w0).alloc _).grown h2 fun k hk => .inl (by simpa using hk)) h3 h4
    unfold Hs
    rw [List.map_append, List.length_append]
    exact h1

theorem prefix_len {s : ByteArray} {q : Nat} (h : Lib.hasPrefix (s.extract q s.size).data.toList offW = true) : q + 7 ≤ s.size := by
  unfold Lib.hasPrefix at h
  have h1 := (List.isPrefixOf_iff_prefix.1 h).length_le
  have h2 : (s.extract q s.size).data.toList.length = (s.extract q s.size).size := by rw [Array.length_toList]; rfl
  rw [h2, ByteArray.size_extract] at h1
  simp [offW] at h1
  omega
theorem signS_out (s : ByteArray) (b : Int) (p : Nat) : signS s b p ≠ .out := by unfold signS; split <;> simp
theorem topB_snoc (l : List Bool) (b : Bool) : topB (l ++ [b]) = b := by unfold topB; simp
theorem Hs.pop {B : Nat} {w : World} {gh cap : Nat} {l : List Bool} {b : Bool} {n : Nat} (h : Hs B w (.slice (some ⟨gh, 0, none⟩) (n + 1) cap) (l ++ [b])) (hn : l.length = n) : Hs B w (.slice (some ⟨gh, 0, none⟩) n cap) l := by
  subst hn
  unfold Hs at h ⊢
  refine ⟨by simp, ?_⟩
  rcases h.2 with ⟨h0, _⟩ | ⟨g, c, cur, hv, hB, hg, hle, hc, hsz, htk⟩
  · cases h0
  · injection hv with h1 _ h3
    injection h1 with h1
    injection h1 with h1
    subst h1; subst h3
    refine .inr ⟨gh, cap, cur, rfl, hB, hg, by simp at hle; omega, hc, hsz, ?_⟩
    have := congrArg (List.take l.length) htk
    rw [List.take_take, List.map_append, List.take_left' (by simp)] at this
    simp at this
    simpa using this
theorem Hs.snoc_form {B : Nat} {w : World} {v : Value} {l : List Bool} {b : Bool} {n : Nat} (h : Hs B w v (l ++ [b])) (hn : l.length = n) : ∃ gh cap, v = .slice (some ⟨gh, 0, none⟩) (n + 1) cap ∧ n + 1 ≤ cap ∧ cap ≤ maxLen := by
  subst hn
  rcases h.2 with ⟨_, h0⟩ | ⟨g, c, cur, hv, hB, hg, hle, hc, hsz, htk⟩
  · simp at h0
  · exact ⟨g, c, by rw [hv]; simp, by simpa using hle, hc⟩
theorem caseBox {w w' : World} {bs : List Nat} (h : Keep bs (w.alloc (.cells #[.string ⟨#[]⟩, .slice none 0 0] 51)).drew w') (hn : w.heap.size ∉ bs) :
    Blk w' w.heap.size 51 #[.string ⟨#[]⟩, .slice none 0 0] ∧ w'.frozen? ⟨w.heap.size, 0, none⟩ = false ∧ w'.frozen? ⟨w.heap.size, 1, none⟩ = false ∧ w'.cell? ⟨w.heap.size, 0, none⟩ = some (.string ⟨#[]⟩) ∧ w'.cell? ⟨w.heap.size, 1, none⟩ = some (.slice none 0 0) := by
  have hb : Blk w' w.heap.size 51 #[.string ⟨#[]⟩, .slice none 0 0] := Blk.keep (Blk.drew (Blk.new w 51 #[.string ⟨#[]⟩, .slice none 0 0])) h hn
  exact ⟨hb, hb.frozen 0, hb.frozen 1, hb.cell_eq rfl, hb.cell_eq rfl⟩
theorem infoCase : (Tryz.prog.info? 51).map (fun i => (i.zero, i.size, i.bytes)) = some (some (.agg #[.string ⟨#[]⟩, .slice none 0 0]), 2, 40) := by kernel_rfl
theorem OwnK.more {f B : Nat} {S T : Nat → Prop} {w' : World} {v' : Value} {cs : List CT} {us : List Value} {c : CT} {pv : Value} (hu : us.length = cs.length) (ho : w'.ownsRow B 51 2 v' (cs.length + 1) (caseC cs us ++ [.string c.1, pv]))
    (h : ∀ (j : Nat) (c : CT) (pv : Value), cs[j]? = some c → us[j]? = some pv → Lies f S w' pv c.2) (hc : Lies f T w' pv c.2) : OwnK f (fun b => S b ∨ T b) w' B v' (cs ++ [c]) := by
  refine ⟨us ++ [pv], by simp [hu], ?_, ?_⟩
  · rw [caseC_append _ _ _ _ hu, List.length_append]
    exact ho
  · intro j d qv hj hq
    rcases Nat.lt_or_ge j cs.length with hh | hh
    · rw [List.getElem?_append_left hh] at hj
      rw [List.getElem?_append_left (by omega)] at hq
      exact (h j d qv hj hq).mono (fun x hx => .inl hx)
    · rw [List.getElem?_append_right hh] at hj
      rw [List.getElem?_append_right (by omega), hu] at hq
      cases hi : j - cs.length with
      | zero => rw [hi] at hj hq; simp at hj hq; subst hj; subst hq; exact hc.mono (fun x hx => .inr hx)
      | succ k => rw [hi] at hj; simp at hj
theorem pt_off (pt : PT) (h : pt.off = 0) : ({ pt with off := 0 } : PT) = pt := by cases pt; simp at h; subst h; rfl
set_option maxRecDepth 100000 in
set_option maxHeartbeats 40000000 in
/-- choice. -/
theorem choice_any (s : ByteArray) (f : Nat) (hM : MsgC s f) (hs : s.size ≤ 1000000000) (w : World) (B g pb : Nat) (pt : PT) (o p n d : Nat) (v : Value) (hl : List Bool) (hE : EnvM B w) (hBg : B ≤ g) (hBp : B ≤ pb) (h : Rr w g s p n d v) (hH : Hs B w v hl)
    (hp : p ≤ s.size) (hn : n ≤ 1024) (hd : d ≤ 8) (hld : hl.length = d) (hP : Blk w pb 47 (pt.cells (.slice none 0 0)).toArray) (hpt : pt.cs = [] ∧ pt.off = 0) (hne : choiS s (fun p n => msgF s f (d + 1) (decide (pt.k ≠ 4)) [] p n) f pt.k o p n d ≠ .out) (hok : ∀ e r, choiS s (fun p n => msgF s f (d + 1) (decide (pt.k ≠ 4)) [] p n) f pt.k o p n d ≠ .bad e r) :
    Calls Tryz.prog 99 #[.pointer (some ⟨g, 0, none⟩), .pointer (some ⟨pb, 0, none⟩), .int .i64 o] w (ChPost f w B g pb s pt p d v hl (choiS s (fun p n => msgF s f (d + 1) (decide (pt.k ≠ 4)) [] p n) f pt.k o p n d)) := by
  have HE := Lib.hid hE
  have HR := Lib.hid h
  have HH := Lib.hid hH
  have HP := Lib.hid hP
  have HPT := Lib.hid hpt
  have HLD := Lib.hid hld
  obtain ⟨c0, c1, c2, c3, c4, f1, f2, f3, f4⟩ := h.cells
  have hgl := h.lt
  have hpl := hP.lt
  have b0 : w.cell? ⟨pb, 0, none⟩ = some (.int .i64 pt.k) := hP.cell_eq rfl
  have HGP : Hid (g ≠ pb) := Blk.ne_ h hP (by decide)
  by_cases h8 : d = 8
  · subst h8
    have HX : Hid (choiS s (fun p n => msgF s f (8 + 1) (decide (pt.k ≠ 4)) [] p n) f pt.k o p n 8 = .bad 3 o) := by unfold Hid choiS; rw [if_pos rfl]
    clear h hH hP hE hne hld hpt
    go_enter Tryz.func99, Tryz.ntmps99
    go_wp2_with (go_at_call 37; refine (rfail_any _ _ _ _).mono ?_; rintro x w3 ⟨rfl, rfl⟩)
    rw [HX.out]
    exact ⟨rfl, rfl, Below.refl _ _⟩
  have h8' : ((d : Int) == 8) = false := by simp; omega
  obtain ⟨A, cap, rfl, hA⟩ := hH.form
  have hbk : Hid (∀ x ∈ (Value.slice A hl.length cap).ownBlock.toList, x ≠ g ∧ x ≠ pb) := fun x hx => ⟨by rintro rfl; exact own_blk_ne hH h (by decide) (by simpa using hx), by rintro rfl; exact own_blk_ne hH hP (by decide) (by simpa using hx)⟩
  clear hA h hH hP hE hld hpt
  have hd8 : d < 8 := by omega
  obtain ⟨kb, hkb⟩ : ∃ kb : Bool, kb = decide (pt.k ≠ 4) := ⟨_, rfl⟩
  have hk4 : (pt.k != 4) = kb := by rw [hkb]; by_cases hk : pt.k = 4 <;> simp [hk]
  have HKB := Lib.hid hkb
  rw [← hkb] at hne hok ⊢
  clear hkb h8
  have hmf : ∀ (fn : Fn) (first cap : Array Value) (w : World), (Instr.makeFunc fn first cap).run Tryz.prog w = .ok (.func fn first cap) w := fun _ _ _ _ => rfl
  go_enter Tryz.func99, Tryz.ntmps99
  go_upto_region 3 with fail
  go_cut [] (fun W => ∃ v2, Rr W g s p n (d + 1) v2 ∧ Hs B W v2 (hl ++ [kb]) ∧ Blk W pb 47 (pt.cells (.slice none 0 0)).toArray ∧ Keep (g :: (Value.slice A hl.length cap).ownBlock.toList) w W ∧ (∀ b ∈ v2.ownBlock.toList, b ∈ (Value.slice A hl.length cap).ownBlock.toList ∨ w.heap.size ≤ b))
  case first =>
    have hR1 : Rr (w.setCell ⟨g, 3, none⟩ (.int .i64 ((d : Int) + 1))) g s p n (d + 1) (.slice A hl.length cap) := HR.out.setD (d + 1) _ (by omega)
    have K1 : Hid (Keep [g] w (w.setCell ⟨g, 3, none⟩ (.int .i64 ((d : Int) + 1)))) := (Keep.refl _ _).setCell (.inl (by simp)) _
    have hP1 : Blk (w.setCell ⟨g, 3, none⟩ (.int .i64 ((d : Int) + 1))) pb 47 (pt.cells (.slice none 0 0)).toArray := HP.out.keep K1.out (by have := HGP.out; simp; omega)
    have hH1 : Hs B (w.setCell ⟨g, 3, none⟩ (.int .i64 ((d : Int) + 1))) (.slice A hl.length cap) hl := HH.out.keep K1.out (fun x hx hc => by simp at hc; exact (hbk.out x hx).1 hc)
    have hs1 : w.heap.size = (w.setCell ⟨g, 3, none⟩ (.int .i64 ((d : Int) + 1))).heap.size := by simp [World.setCell]
    generalize w.setCell ⟨g, 3, none⟩ (.int .i64 ((d : Int) + 1)) = w1 at *
    clear c0 c1 c2 c3 c4 f1 f2 f3 f4 b0
    obtain ⟨c0, c1, c2, c3, c4, f1, f2, f3, f4⟩ := hR1.cells
    have b0 : w1.cell? ⟨pb, 0, none⟩ = some (.int .i64 pt.k) := hP1.cell_eq rfl
    have HR1 := Lib.hid hR1
    have HP1 := Lib.hid hP1
    have HH1 := Lib.hid hH1
    have hgo : some g ≠ (Value.slice A hl.length cap).ownBlock := fun hc => (hbk.out g (by rw [← hc]; simp)).1 rfl
    have hpo : some pb ≠ (Value.slice A hl.length cap).ownBlock := fun hc => (hbk.out pb (by rw [← hc]; simp)).2 rfl
    obtain ⟨ib, hib, ib0, ib1, ib2⟩ := info_parts infoBool
    have HIB := Lib.hid hib
    have HIB0 := Lib.hid ib0
    have HIB1 := Lib.hid ib1
    have HIB2 := Lib.hid ib2
    have hg1 : g < w1.heap.size := by omega
    have hp1 : pb < w1.heap.size := by omega
    have hB1 : B ≤ w1.heap.size := by omega
    have HS1 := Lib.hid hs1
    generalize hll : hl.length = m at *
    have hml : m ≤ 8 := by have := HLD.out; omega
    have HLL := Lib.hid hll
    have HOW : Hid (w1.ownsRow B 4 1 (.slice A m cap) m (hl.map Value.bool)) := by have := HH1.out; unfold Hs at this; rw [HLL.out] at this; exact this
    clear hR1 hP1 hH1 hib ib0 ib1 ib2 hs1 hll
    go_region_law (first | (refine step_append_lies _ (by rfl) _ _ _ (by rfl) B 4 ib _ 1 1 Tryz.underlying62 HIB.out HIB0.out HIB1.out HIB2.out rfl (by omega) (.slice A m cap) m (hl.map Value.bool) (by rfl) ((World.ownsRow.alloc (HOW.out) _).drew) ⟨w1.heap.size, 0, none⟩ 1 1 [.bool kb] (by rfl) (by rfl) (World.news_of_block (cs := #[.bool kb]) (t := 4) (fr := (0, 0)) (heap_alloc_new w1 _)) (by simp [Value.oneCell']) (by omega) (by unfold maxLen; omega) (by omega) (by simp; omega) (w1.heap.size + 1) (by simp) ?_; intro gg cap2 w2 hown2 hgrow hat hlt; have hR2 : Rr w2 g s p n (d + 1) (.slice A m cap) := Blk.grown (Blk.drew (Blk.alloc HR1.out _)) hgrow hgo; have hP2 : Blk w2 pb 47 (pt.cells (.slice none 0 0)).toArray := Blk.grown (Blk.drew (Blk.alloc HP1.out _)) hgrow hpo; obtain ⟨e0, e1, e2, e3, e4, z1, z2, z3, z4⟩ := hR2.cells; have k0 : w2.cell? ⟨pb, 0, none⟩ = some (.int .i64 pt.k) := hP2.cell_eq rfl; have HR2 := Lib.hid hR2; have HP2 := Lib.hid hP2; clear hR2 hP2))
    all_goals
      go_wp2_with fail
      go_meet
      have hK2 : Keep (Value.slice A m cap).ownBlock.toList w1 w2 := ((((Keep.refl _ w1).alloc _).drew).grown hgrow fun k hk => .inl (by simpa using hk))
      have hng : g ≠ gg := by
        intro hc
        subst hc
        rcases hat with h | h
        · exact hgo h.symm
        · omega
      have hnp : pb ≠ gg := by
        intro hc
        subst hc
        rcases hat with h | h
        · exact hpo h.symm
        · omega
      have hks : Keep [g] w2 (w2.setCell ⟨g, 4, none⟩ (.slice (some ⟨gg, 0, none⟩) (m + 1) cap2)) := (Keep.refl _ _).setCell (.inl (by simp)) _
      refine ⟨.slice (some ⟨gg, 0, none⟩) (m + 1) cap2, HR2.out.setV _, ?_, HP2.out.keep hks (by have := HGP.out; simp; omega), ?_, ?_⟩
      · have h0 : Hs B w2 (.slice (some ⟨gg, 0, none⟩) (m + 1) cap2) (hl ++ [kb]) := by
          unfold Hs
          rw [List.map_append, List.length_append, HLL.out]
          exact hown2
        exact h0.keep hks (fun x hx hc => by simp [Value.ownBlock] at hx hc; omega)
      · exact ((K1.out.mono (fun x hx => .inl (by simp at hx; simp [hx]))).same (hK2.mono (fun x hx => .inl (by simp at hx ⊢; exact .inr hx)))).same (hks.mono (fun x hx => .inl (by simp at hx; simp [hx])))
      · intro b hb
        simp [Value.ownBlock] at hb
        subst hb
        rcases hat with h | h
        · exact .inl (by simp [h])
        · exact .inr (by have := HS1.out; omega)
  case rest =>
    obtain ⟨v2, hR2, hH2, hP2, hK2, hO2⟩ := hcut
    have HR2 := Lib.hid hR2
    have HH2 := Lib.hid hH2
    have HP2 := Lib.hid hP2
    have HK2 := Lib.hid hK2
    have HO2 := Lib.hid hO2
    have hv2 : Hid (∀ x ∈ v2.ownBlock.toList, x ≠ g ∧ x ≠ pb) := fun x hx => ⟨by rintro rfl; exact own_blk_ne hH2 hR2 (by decide) (by simpa using hx), by rintro rfl; exact own_blk_ne hH2 hP2 (by decide) (by simpa using hx)⟩
    have hqs := skip_le s p hp
    clear c0 c1 c2 c3 c4 f1 f2 f3 f4 b0 hR2 hH2 hP2 hK2 hO2
    have hne2 : Hid ((offS s pt.k (skip s p)).thenM (fun off q => (caseF s (fun p n => msgF s f (d + 1) kb [] p n) pt.k f [] q n).then fun cs q2 n2 => if memW (cs.map Prod.fst) otherW then .ok (off, cs) q2 n2 else .bad 291 q2) = choiS s (fun p n => msgF s f (d + 1) kb [] p n) f pt.k o p n d) := by
      unfold Hid choiS
      rw [if_neg (by omega)]
    have hpq := skip_ge s p
    have HB2 := Lib.hid (blanks_any wc g s p n (d + 1) v2 HR2.out hp (by omega))
    generalize skip s p = q0 at *
    go_upto_region 5 with (go_at_call 95; refine HB2.out.mono ?_; rintro x w3 ⟨rfl, hR3, hk3⟩)
    have HR3 := Lib.hid hR3
    have HK3 := Lib.hid (HK2.out.same (hk3.mono (cs := g :: (Value.slice A hl.length cap).ownBlock.toList) (fun x hx => .inl (by simp at hx; simp [hx]))))
    have HP3 : Hid (Blk w3 pb 47 (pt.cells (.slice none 0 0)).toArray) := HP2.out.keep hk3 (by have := HGP.out; simp; omega)
    have HH3 : Hid (Hs B w3 v2 (hl ++ [kb])) := HH2.out.keep hk3 (fun x hx hc => by simp at hc; exact (hv2.out x hx).1 hc)
    obtain ⟨c0, c1, c2, c3, c4, f1, f2, f3, f4⟩ := hR3.cells
    have b0 : w3.cell? ⟨pb, 0, none⟩ = some (.int .i64 pt.k) := HP3.out.cell_eq rfl
    clear hR3 hk3 HB2 HR2 HP2 HH2 HK2
    obtain ⟨cb, hcb⟩ : ∃ cb : Bool, cb = (kb && Lib.hasPrefix (s.extract q0 s.size).data.toList offW) := ⟨_, rfl⟩
    have HCB := Lib.hid hcb
    clear hcb
    go_cut [57] (fun u W => u = .bool cb ∧ ∃ k, W = w3.drewN k)
    case first =>
      have hq1 : (q0 : Int) ≤ s.size := by omega
      have HP5 : Hid (∀ W, Calls Tryz.prog 71 #[.string (s.extract q0 s.size), .string ⟨#[111, 102, 102, 115, 101, 116, 58]⟩] W fun e w' => e = .returned (.bool (Lib.hasPrefix (s.extract q0 s.size).data.toList offW)) ∧ w' = W) := fun W => Tryz.strings_HasPrefix _ _ W
      cases kb with
      | false =>
        have HC : Hid (cb = false) := by unfold Hid; rw [HCB.out]; rfl
        go_quiet (fail)
        go_wp2_with fail
        go_meet
        exact ⟨by rw [HC.out], _, rfl⟩
      | true =>
        have HC : Hid (Lib.hasPrefix (s.extract q0 s.size).data.toList offW = cb) := by unfold Hid; rw [HCB.out]; rfl
        rw [HC.out] at HP5
        go_quiet ((go_at_call 71; exact Calls.quiet_of_same (HP5.out _)))
        go_wp2_with fail
        go_meet
        exact ⟨rfl, _, rfl⟩
    case rest =>
      obtain ⟨rfl, k3, hw3⟩ := hcut
      have HR4 : Hid (Rr wc g s q0 n (d + 1) v2) := by unfold Hid; rw [hw3]; exact HR3.out.drewN _
      have HP4 : Hid (Blk wc pb 47 (pt.cells (.slice none 0 0)).toArray) := by unfold Hid; rw [hw3]; exact HP3.out
      have HH4 : Hid (Hs B wc v2 (hl ++ [kb])) := by unfold Hid; rw [hw3]; exact HH3.out
      have HK4 : Hid (Keep (g :: (Value.slice A hl.length cap).ownBlock.toList) w wc) := by unfold Hid; rw [hw3]; exact HK3.out.drewN _
      clear hw3 c0 c1 c2 c3 c4 f1 f2 f3 f4 b0 HR3 HP3 HH3 HK3
      obtain ⟨c0, c1, c2, c3, c4, f1, f2, f3, f4⟩ := HR4.out.cells
      have hoX : ∀ x ∈ g :: (Value.slice A hl.length cap).ownBlock.toList, B ≤ x := fun x hx => by
        rcases List.mem_cons.1 hx with h | h
        · omega
        · exact (World.ownsRow.lt HH.out x (by simpa using h)).1
      have HOX := Lib.hid hoX
      clear hoX
      go_upto_if 57 with fail
      go_cut [57] (fun _ W => ∃ off q, offS s pt.k q0 = .ok off q ∧ q0 ≤ q ∧ q ≤ s.size ∧ Rr W g s q n (d + 1) v2 ∧ Blk W pb 47 (({ pt with off := off } : PT).cells (.slice none 0 0)).toArray ∧ Hs B W v2 (hl ++ [kb]) ∧ Keep ([g, pb] ++ (Value.slice A hl.length cap).ownBlock.toList) w W)
      case first =>
        cases cb with
        | false =>
          have HO : Hid (offS s pt.k q0 = .ok 0 q0) := by
            unfold Hid offS
            rw [if_neg]
            rintro ⟨h1, h2⟩
            have := HCB.out
            rw [h2, HKB.out, decide_eq_true h1] at this
            cases this
          go_wp2_with fail
          go_meet
          exact ⟨0, q0, HO.out, Nat.le_refl _, hqs, HR4.out, by rw [pt_off pt HPT.out.2]; exact HP4.out, HH4.out, HK4.out.mono (fun x hx => .inl (by simp at hx ⊢; rcases hx with h | h <;> simp [h]))⟩
        | true =>
          have HPX : Hid (pt.k ≠ 4 ∧ Lib.hasPrefix (s.extract q0 s.size).data.toList offW = true) := by
            have h1 := HCB.out
            rw [Eq.comm, Bool.and_eq_true, HKB.out, decide_eq_true_iff] at h1
            exact h1
          have hq7 := prefix_len HPX.out.2
          have HO : Hid (offS s pt.k q0 = (numS s (skip s (q0 + 7))).then fun v e => .ok v (skip s e)) := by unfold Hid offS; rw [if_pos HPX.out]
          have hst : Keep [g] wc (wc.setCell ⟨g, 1, none⟩ (.int .i64 ((q0 : Int) + 7))) := (Keep.refl _ _).setCell (.inl (by simp)) _
          have HB5 := Lib.hid (blanks_any _ g s (q0 + 7) n (d + 1) v2 (HR4.out.setAt (q0 + 7) ((q0 : Int) + 7) (by omega)) hq7 (by omega))
          have hq8 := skip_le s (q0 + 7) hq7
          have hq9 := skip_ge s (q0 + 7)
          have HST := Lib.hid hst
          clear hst
          generalize skip s (q0 + 7) = q1 at *
          go_wp2_with fail
          refine HB5.out.mono ?_
          rintro x w5 ⟨rfl, hR5, hk5⟩
          have HR5 := Lib.hid hR5
          have HK5 := Lib.hid (HK4.out.same ((HST.out.same hk5).mono (cs := g :: (Value.slice A hl.length cap).ownBlock.toList) (fun x hx => .inl (by simp at hx; simp [hx]))))
          have HK45 := Lib.hid (HST.out.same hk5)
          have HP5 : Hid (Blk w5 pb 47 (pt.cells (.slice none 0 0)).toArray) := HP4.out.keep HK45.out (by have := HGP.out; simp; omega)
          have HN5 := Lib.hid (rnumber_any (B := B) w5 g s q1 n (d + 1) v2 (HE.out.keep HK5.out HOX.out) hBg hR5 hq8 hs)
          clear hR5 hk5 HB5
          cases hnum : numS s q1 with
          | out => exact absurd hnum (numS_out _ _)
          | bad e r =>
            rw [hnum] at HN5
            have HX : Hid (choiS s (fun p n => msgF s f (d + 1) kb [] p n) f pt.k o p n d = .bad e r) := by
              unfold Hid; rw [← hne2.out, HO.out, hnum]; rfl
            clear hnum
            go_wp2_with fail
            refine HN5.out.mono ?_
            rintro x w6 ⟨rfl, hk6⟩
            go_wp2_with fail
            rw [HX.out]
            exact ⟨rfl, rfl, (HK5.out.same (hk6.mono (cs := g :: (Value.slice A hl.length cap).ownBlock.toList) (fun x hx => .inl (by simp at hx; simp [hx])))).below HOX.out HE.out.env.le⟩
          | ok y r =>
            rw [hnum] at HN5
            have hr := numS_ge hnum hq8
            have HO2 : Hid (offS s pt.k q0 = .ok y (skip s r)) := by unfold Hid; rw [HO.out, hnum]; rfl
            clear hnum
            go_wp2_with fail
            refine HN5.out.mono ?_
            rintro x w6 ⟨rfl, hR6, hk6⟩
            have HR6 := Lib.hid hR6
            have hP6 : Blk w6 pb 47 (pt.cells (.slice none 0 0)).toArray := HP5.out.keep hk6 (by have := HGP.out; simp; omega)
            have z5 := hP6.frozen 5
            have y5 : w6.cell? ⟨pb, 5, none⟩ = some (.int .i64 pt.off) := hP6.cell_eq rfl
            have HP6 := Lib.hid hP6
            have HK6 := Lib.hid (HK45.out.same hk6)
            clear hR6 hk6 hP6
            go_wp2_with fail
            have hks : Keep [pb] w6 (w6.setCell ⟨pb, 5, none⟩ (.int .i64 y)) := (Keep.refl _ _).setCell (.inl (by simp)) _
            have hR7 := HR6.out.keep hks (by have := HGP.out; simp; omega)
            refine (blanks_any _ g s r n (d + 1) v2 hR7 hr.2 (by omega)).mono ?_
            rintro x w8 ⟨rfl, hR8, hk8⟩
            go_wp2_with fail
            go_meet
            have hall : Keep [g, pb] wc w8 := ((HK6.out.mono (fun x hx => .inl (by simp at hx; simp [hx]))).same (hks.mono (fun x hx => .inl (by simp at hx; simp [hx])))).same (hk8.mono (fun x hx => .inl (by simp at hx; simp [hx])))
            have h9 := skip_ge s r
            refine ⟨y, skip s r, HO2.out, by omega, skip_le s r hr.2, hR8, ?_, HH4.out.keep hall (fun x hx hc => by have := hv2.out x hx; simp at hc; omega), (HK4.out.mono (fun x hx => .inl (by simp at hx ⊢; rcases hx with h | h <;> simp [h]))).same (hall.mono (fun x hx => .inl (by simp at hx ⊢; rcases hx with h | h <;> simp [h])))⟩
            exact (Blk.set_ HP6.out 5 (.int .i64 y)).keep hk8 (by have := HGP.out; simp; omega)
      case rest =>
        obtain ⟨off, q, hoff, hq1, hq2, hR5, hP5, hH5, hK5⟩ := hcut
        have HOFF := Lib.hid hoff
        have HR5 := Lib.hid hR5
        have HP5 := Lib.hid hP5
        have HH5 := Lib.hid hH5
        have HK5 := Lib.hid hK5
        clear hoff hR5 hP5 hH5 hK5 c0 c1 c2 c3 c4 f1 f2 f3 f4
        obtain ⟨M, hM2⟩ : ∃ M : Nat → Nat → RM (List PT), M = fun p n => msgF s f (d + 1) kb [] p n := ⟨_, rfl⟩
        have HM2 := Lib.hid hM2
        have hch : (caseF s M pt.k f [] q n).then (fun cs q2 n2 => if memW (cs.map Prod.fst) otherW then .ok (off, cs) q2 n2 else .bad 291 q2) = choiS s (fun p n => msgF s f (d + 1) kb [] p n) f pt.k o p n d := by rw [← hne2.out, HOFF.out, hM2]; rfl
        have HCH := Lib.hid hch
        have hno : caseF s M pt.k f [] q n ≠ .out := fun hc => hne (by rw [← hch, hc]; rfl)
        have HNO := Lib.hid hno
        have HNE := Lib.hid hne
        clear hM2 hch hno hne hne2 HR4 HP4 HH4 HK4
        generalize hRR : caseF s M pt.k f [] q n = RR at *
        have HRR := Lib.hid hRR
        clear hRR
        have HPX : Hid (∀ x ∈ [g, pb] ++ (Value.slice A hl.length cap).ownBlock.toList, B ≤ x) := fun x hx => by
          simp only [List.cons_append, List.nil_append, List.mem_cons] at hx
          rcases hx with h | h | h
          · omega
          · omega
          · exact HOX.out x (List.mem_cons_of_mem _ h)
        go_wp2
        go_loopw [6] (fun u6 wr => ∃ (fst : Bool) (cs : List CT) (qq nn ff : Nat) (vv cv : Value) (S : Nat → Prop), u6 = .bool fst ∧ Rr wr g s qq nn (d + 1) vv ∧ Hs B wr vv (hl ++ [kb]) ∧ Blk wr pb 47 (({ pt with off := off } : PT).cells cv).toArray ∧ OwnK (f + 1) S wr w.heap.size cv cs ∧
          (∀ b, S b → w.heap.size ≤ b ∧ b < wr.heap.size ∧ b ∉ vv.ownBlock.toList ∧ b ∉ cv.ownBlock.toList) ∧ (∀ b ∈ vv.ownBlock.toList, b ∈ (Value.slice A hl.length cap).ownBlock.toList ∨ w.heap.size ≤ b) ∧ Keep ([g, pb] ++ (Value.slice A hl.length cap).ownBlock.toList) w wr ∧ q ≤ qq ∧ qq ≤ s.size ∧ nn ≤ 1024 ∧ cs.length ≤ qq ∧
          (if fst = false ∧ byt s qq = 125 then .ok cs qq nn else caseF s M pt.k ff cs qq nn) = RR) (fun _ wr => s.size + 1 - rdrAt wr g)
        case atStart =>
          exact ⟨true, [], q, n, f, v2, .slice none 0 0, fun _ => False, rfl, HR5.out, HH5.out, HP5.out, OwnK.nil _ _ _ _, fun b h => h.elim, fun b hb => HO2.out b hb, HK5.out, Nat.le_refl _, hq2, hn, Nat.zero_le _, by rw [if_neg (by simp)]; exact HRR.out⟩
        case round =>
          obtain ⟨fst, cs, qq, nn, ff, vv, cv, S, rfl, hR6, hH6, hP6, hO6, hS6, hV6, hK6, hqq1, hqq2, hnn, hcl, hF6⟩ := hrel
          obtain ⟨c0, c1, c2, c3, c4, f1, f2, f3, f4⟩ := hR6.cells
          have b0 : wr.cell? ⟨pb, 0, none⟩ = some (.int .i64 pt.k) := hP6.cell_eq rfl
          have b6 : wr.cell? ⟨pb, 6, none⟩ = some cv := hP6.cell_eq rfl
          have HR6 := Lib.hid hR6
          have HH6 := Lib.hid hH6
          have HP6 := Lib.hid hP6
          have HO6 := Lib.hid hO6
          have HS6 := Lib.hid hS6
          have HV6 := Lib.hid hV6
          have HK6 := Lib.hid hK6
          have HF6 := Lib.hid hF6
          have HVG : Hid (∀ x ∈ vv.ownBlock.toList, x ≠ g ∧ x ≠ pb ∧ x ∉ cv.ownBlock.toList) := fun x hx => ⟨by rintro rfl; exact own_blk_ne hH6 hR6 (by decide) (by simpa using hx), by rintro rfl; exact own_blk_ne hH6 hP6 (by decide) (by simpa using hx), fun hc => by
            obtain ⟨us, _, how, _⟩ := hO6
            rcases how.2 with ⟨rfl, _⟩ | ⟨gc, cpc, cur, rfl, _, hgc, _⟩
            · simp [Value.ownBlock] at hc
            · simp [Value.ownBlock] at hc
              subst hc
              exact own_blk_ne (g := x) (t := 51) (cs := cur) hH6 hgc (by decide) (by simpa using hx)⟩
          have HCG : Hid (∀ x ∈ cv.ownBlock.toList, w.heap.size ≤ x ∧ x < wr.heap.size) := fun x hx => hO6.lt x hx
          have hws := hK6.size
          clear hR6 hH6 hP6 hO6 hS6 hV6 hK6 hF6 HR5 HP5 HH5 HK5 HRR
          have HSIGN : Hid (∀ (e : Int) (r : Nat), RR = .bad e r → choiS s (fun p n => msgF s f (d + 1) kb [] p n) f pt.k o p n d = .bad e r) := fun e r h => by
            rw [← HCH.out, h]; rfl
          have HBEL : Hid (∀ W, Keep ([g, pb] ++ (Value.slice A hl.length cap).ownBlock.toList) w W → Below B w W) := fun W hk => hk.below HPX.out HE.out.env.le
          have HON := Lib.hid (fun W (hRW : Rr W g s qq nn (d + 1) vv) => on_any W g s qq nn (d + 1) vv 125 hRW (by omega))
          by_cases hex : fst = false ∧ byt s qq = 125
          · obtain ⟨rfl, h125⟩ := hex
            have HFE : Hid (RR = .ok cs qq nn) := by have := HF6.out; rw [if_pos ⟨rfl, h125⟩] at this; exact this.symm
            have HO1 := Lib.hid (show (byt s qq == 125) = true by rw [h125]; rfl)
            clear h125 HF6
            go_wp2_with (go_at_call 68; refine (HON.out _ HR6.out).mono ?_; rintro x w7 ⟨rfl, k, rfl⟩; rw [HO1.out])
            obtain ⟨us, hus, how, hch⟩ := HO6.out
            have hrd : RdC (fun _ => True) (wr.drewN k) cv cs.length (caseC cs us) := (RdC.of_own (caseC_length cs us hus) how (fun _ _ => trivial)).keep (bs := []) ((Keep.refl _ _).drewN k) (by simp)
            have HHO := Lib.hid (hasOther_any (fun _ => True) cv cs us hus (wr.drewN k) hrd (by omega))
            clear hrd how hch hus
            cases hmo : memW (cs.map Prod.fst) otherW with
            | false =>
              rw [hmo] at HHO
              have HX : Hid (choiS s (fun p n => msgF s f (d + 1) kb [] p n) f pt.k o p n d = .bad 291 qq) := by unfold Hid; rw [← HCH.out, HFE.out]; simp only [RM.then]; rw [hmo]; rfl
              clear hmo
              refine HHO.out.mono ?_
              rintro x w8 ⟨rfl, hb8⟩
              have hR8 := (HR6.out.drewN k).below hb8 HR6.out.lt
              obtain ⟨e0, e1, e2, e3, e4, z1, z2, z3, z4⟩ := hR8.cells
              have HK8 := Lib.hid (HK6.out.drewN k |>.below_ge hb8 hws)
              clear hR8 hb8
              go_wp2_with (go_at_call 37; refine (rfail_any _ _ _ _).mono ?_; rintro x w9 ⟨rfl, rfl⟩)
              rw [HX.out]
              exact ⟨rfl, rfl, HBEL.out _ HK8.out⟩
            | true =>
              rw [hmo] at HHO
              have HX : Hid (choiS s (fun p n => msgF s f (d + 1) kb [] p n) f pt.k o p n d = .ok (off, cs) qq nn) := by unfold Hid; rw [← HCH.out, HFE.out]; simp only [RM.then]; rw [hmo]; rfl
              clear hmo
              refine HHO.out.mono ?_
              rintro x w8 ⟨rfl, hb8⟩
              have hR8 := (HR6.out.drewN k).below hb8 HR6.out.lt
              obtain ⟨gh, caph, rfl, hcaph, hcapm⟩ := Hs.snoc_form HH6.out HLD.out
              unfold maxLen at hcapm
              obtain ⟨e0, e1, e2, e3, e4, z1, z2, z3, z4⟩ := hR8.cells
              have HR8 := Lib.hid hR8
              have HK68 : Hid (Keep [] wr w8) := ((Keep.refl [] wr).drewN k).below_ge hb8 (Nat.le_refl _)
              clear hR8 hb8
              have s1 : IntKind.i64.wrap (((d + 1 : Nat) : Int) - 1) = (d : Int) := by rw [IntWalk.i64_in _ (by omega)]; omega
              have s1' : IntKind.i64.wrap ((d : Int) + 1 - 1) = (d : Int) := by rw [IntWalk.i64_in _ (by omega)]; omega
              have s2 : (0 : Int) ≤ (d : Int) := by omega
              have s3 : (d : Int) ≤ caph := by omega
              have s4 : d ≤ caph := by omega
              go_wp2_with fail
              go_region
              go_wp2_with fail
              go_end0
              rw [HX.out]
              have hk0 : Keep [g] wr ((w8.setCell ⟨g, 4, none⟩ (.slice (some ⟨gh, 0, none⟩) d caph)).setCell ⟨g, 3, none⟩ (.int .i64 d)).drew := (((HK68.out.mono (cs := [g]) (fun x hx => by cases hx)).setCell (p := ⟨g, 4, none⟩) (.inl (by simp)) _).setCell (p := ⟨g, 3, none⟩) (.inl (by simp)) _).drew
              have hcg : ∀ x ∈ cv.ownBlock.toList, x ≠ g := fun x hx => by have := (HCG.out x hx).1; omega
              refine ⟨rfl, cv, .slice (some ⟨gh, 0, none⟩) d caph, fun b => S b ∨ b ∈ cv.ownBlock.toList, HP6.out.keep hk0 (by have := HGP.out; simp; omega), ?_, ?_, Blk.drew (Blk.set_ (Blk.set_ HR8.out 4 _) 3 _), ?_, fun b hb => HV6.out b (by simpa [Value.ownBlock] using hb), ?_, by omega, hqq2, hnn⟩
              · refine ((HO6.out.keep hk0 (fun x hx hc => ?_) (fun x hx hc => ?_)).lies (fun x hx => .inl hx) (fun x hx => .inr hx))
                · simp at hx; subst hx; have := (HS6.out x hc).1; omega
                · simp at hc; exact hcg x hx hc
              · have hz := hk0.size
                intro b hb
                rcases hb with hb | hb
                · obtain ⟨h1, h2, h3, _⟩ := HS6.out b hb
                  exact ⟨h1, Nat.lt_of_lt_of_le h2 hz, by simpa [Value.ownBlock] using h3⟩
                · obtain ⟨h1, h2⟩ := HCG.out b hb
                  refine ⟨h1, Nat.lt_of_lt_of_le h2 hz, fun hc => ?_⟩
                  exact (HVG.out b (by simpa [Value.ownBlock] using hc)).2.2 hb
              · exact (Hs.pop HH6.out HLD.out).keep hk0 (fun x hx hc => by simp at hc; exact (HVG.out x (by simpa [Value.ownBlock] using hx)).1 hc)
              · exact HK6.out.same (hk0.mono (fun x hx => .inl (by simp at hx; simp [hx])))
          · have HFE : Hid (caseF s M pt.k ff cs qq nn = RR) := by have := HF6.out; rw [if_neg hex] at this; exact this
            have hO1 : Hid (fst = false → (byt s qq == 125) = false) := fun h => by simp; exact fun hc => hex ⟨h, hc⟩
            obtain ⟨ff, rfl⟩ : ∃ ff', ff = ff' + 1 := by
              cases ff with
              | zero => exact absurd HFE.out.symm HNO.out
              | succ k => exact ⟨k, rfl⟩
            have HF7 : Hid ((keyS s pt.k qq).thenM (fun key p1 => if memW (cs.map Prod.fst) key then .bad 292 qq else (signS s 123 p1).thenM fun _ p2 => (M p2 nn).then fun l p3 n3 => if p3 = s.size then .bad 290 p3 else if byt s (skip s (p3 + 1)) = 125 then .ok (cs ++ [(key, l)]) (skip s (p3 + 1)) n3 else caseF s M pt.k ff (cs ++ [(key, l)]) (skip s (p3 + 1)) n3) = RR) := HFE.out
            clear HFE HF6 hex
            go_upto_region 11 with fail
            go_cut [79] (fun u W => u = .bool true ∧ ∃ k, W = wr.drewN k)
            case first =>
              cases fst with
              | true =>
                go_wp2_with fail
                go_meet
                exact ⟨rfl, 0, rfl⟩
              | false =>
                have hO2 : Hid ((byt s qq == 125) = false) := hO1.out rfl
                go_wp2_with (go_at_call 68; refine (HON.out _ HR6.out).mono ?_; rintro x w7 ⟨rfl, k, rfl⟩; rw [hO2.out])
                go_meet
                exact ⟨rfl, _, rfl⟩
            case rest =>
              obtain ⟨rfl, k7, hw7⟩ := hcut
              have hKr : Keep [] wr wc := by rw [hw7]; exact (Keep.refl _ _).drewN _
              have hR7 := HR6.out.keep hKr (by simp)
              have hP7 := HP6.out.keep hKr (by simp)
              clear hw7 c0 c1 c2 c3 c4 f1 f2 f3 f4 b0 b6
              obtain ⟨c0, c1, c2, c3, c4, f1, f2, f3, f4⟩ := hR7.cells
              have b0 : wc.cell? ⟨pb, 0, none⟩ = some (.int .i64 pt.k) := hP7.cell_eq rfl
              have HR7 := Lib.hid hR7
              have HKr := Lib.hid hKr
              have HK7 := Lib.hid (HK6.out.nil hKr)
              clear hR7 hP7 hKr
              have HKEY := Lib.hid (key_any (B := B) wc g s pt.k qq nn (d + 1) vv (HE.out.below (HBEL.out _ HK7.out)) hBg HR7.out hqq2 hs)
              cases hkey : keyS s pt.k qq with
              | out =>
                have := HF7.out
                rw [hkey] at this
                exact absurd this.symm HNO.out
              | bad e r =>
                rw [hkey] at HKEY
                have HX := Lib.hid (HSIGN.out e r (by rw [← HF7.out, hkey]; rfl))
                clear hkey
                go_wp2_with (go_at_call 141; refine HKEY.out.mono ?_; rintro x w8 ⟨rfl, hk8⟩)
                rw [HX.out]
                exact ⟨rfl, rfl, HBEL.out _ (HK7.out.same (hk8.mono (fun x hx => .inl (by simp at hx; simp [hx]))))⟩
              | ok key p1 =>
                have hkp := keyS_ge hkey
                rw [hkey] at HKEY HF7
                have HF8 : Hid ((if memW (cs.map Prod.fst) key then .bad 292 qq else (signS s 123 p1).thenM fun _ p2 => (M p2 nn).then fun l p3 n3 => if p3 = s.size then .bad 290 p3 else if byt s (skip s (p3 + 1)) = 125 then .ok (cs ++ [(key, l)]) (skip s (p3 + 1)) n3 else caseF s M pt.k ff (cs ++ [(key, l)]) (skip s (p3 + 1)) n3) = RR) := HF7.out
                clear hkey HF7
                go_wp2_with fail
                refine HKEY.out.mono ?_
                rintro x w8 ⟨rfl, hR8, hk8⟩
                have hk8r : Keep [g] wr w8 := (HKr.out.mono (cs := [g]) (fun x hx => by cases hx)).same hk8
                have hP8 := HP6.out.keep hk8r (by have := HGP.out; simp; omega)
                have b6 : w8.cell? ⟨pb, 6, none⟩ = some cv := hP8.cell_eq rfl
                have hcg : ∀ x ∈ cv.ownBlock.toList, x ≠ g := fun x hx => by have := (HCG.out x hx).1; omega
                have HCGG := Lib.hid hcg
                have HO8 := Lib.hid (HO6.out.keep hk8r (fun x hx hc => by simp at hx; subst hx; have := (HS6.out x hc).1; omega) (fun x hx hc => by simp at hc; exact hcg x hx hc))
                obtain ⟨us, hus, how, hch⟩ := HO8.out
                have hrd : RdC (fun _ => True) (w8.alloc (.cells #[.string key] 9)) cv cs.length (caseC cs us) := (RdC.of_own (caseC_length cs us hus) how (fun _ _ => trivial)).keep (bs := []) ((Keep.refl _ _).alloc _) (by simp)
                have hkc : (w8.alloc (.cells #[.string key] 9)).cell? ⟨w8.heap.size, 0, none⟩ = some (.string key) := (Blk.new w8 9 #[.string key]).cell_eq rfl
                have HHK := Lib.hid (hasKey_any (fun _ => True) cv cs us hus key w8.heap.size (w8.alloc (.cells #[.string key] 9)) (by simp) hkc hrd (by omega))
                have hz8 := hk8r.size
                have HR8 := Lib.hid hR8
                have HP8 := Lib.hid hP8
                have HK8 := Lib.hid (HK6.out.same (hk8r.mono (fun x hx => .inl (by simp at hx; simp [hx]))))
                have HK8r := Lib.hid hk8r
                clear hR8 hk8 hk8r hP8 hcg how hch hus hrd hkc c0 c1 c2 c3 c4 f1 f2 f3 f4 b0
                have hpb8 : pb < w8.heap.size := HP8.out.lt
                have hgb8 : g < w8.heap.size := HR8.out.lt
                have HA8 := Lib.hid (Blk.new w8 9 #[.string key])
                cases hmk : memW (cs.map Prod.fst) key with
                | true =>
                  rw [hmk] at HHK
                  have HX := Lib.hid (HSIGN.out 292 qq (by rw [← HF8.out, hmk]; rfl))
                  clear hmk
                  go_wp2_with (first | (go_at_call 78; refine HHK.out.mono ?_; rintro x w10 ⟨rfl, hb10⟩) | (go_at_call 37; refine (rfail_any _ _ _ _).mono ?_; rintro x w9 ⟨rfl, rfl⟩))
                  rw [HX.out]
                  exact ⟨rfl, rfl, HBEL.out _ ((HK8.out.alloc _).below_ge hb10 (by simp; omega))⟩
                | false =>
                  rw [hmk] at HHK
                  have HF9 : Hid (((signS s 123 p1).thenM fun _ p2 => (M p2 nn).then fun l p3 n3 => if p3 = s.size then .bad 290 p3 else if byt s (skip s (p3 + 1)) = 125 then .ok (cs ++ [(key, l)]) (skip s (p3 + 1)) n3 else caseF s M pt.k ff (cs ++ [(key, l)]) (skip s (p3 + 1)) n3) = RR) := by have := HF8.out; rw [hmk] at this; exact this
                  have HMK := Lib.hid hmk
                  clear hmk HF8
                  go_wp2_with (go_at_call 78; refine HHK.out.mono ?_; rintro x w10 ⟨rfl, hb10⟩)
                  have hk10r : Keep [g] wr w10 := (HK8r.out.alloc _).below_ge hb10 (by simp; omega)
                  have hR10 : Rr w10 g s p1 nn (d + 1) vv := (Blk.alloc HR8.out _).below hb10 (by simp; omega)
                  have hA10 : Blk w10 w8.heap.size 9 #[.string key] := HA8.out.below hb10 (by simp)
                  have hz10 : w8.heap.size < w10.heap.size := by have := hb10.size; simp at this; omega
                  have HR10 := Lib.hid hR10
                  have HA10 := Lib.hid hA10
                  have HK10r := Lib.hid hk10r
                  have HSG := Lib.hid (sign_any w10 g s p1 nn (d + 1) vv 123 hR10 hkp.2 (by omega) (by omega))
                  clear hR10 hA10 hk10r hb10 HHK b6
                  cases hsg : signS s 123 p1 with
                  | out => exact absurd hsg (signS_out _ _ _)
                  | bad e r =>
                    rw [hsg] at HSG
                    have HX := Lib.hid (HSIGN.out e r (by rw [← HF9.out, hsg]; rfl))
                    clear hsg
                    refine HSG.out.mono ?_
                    rintro x w11 ⟨rfl, hk11⟩
                    go_wp2_with fail
                    rw [HX.out]
                    exact ⟨rfl, rfl, HBEL.out _ (HK6.out.same ((HK10r.out.same hk11).mono (fun x hx => .inl (by simp at hx; simp [hx]))))⟩
                  | ok u p2 =>
                    have hsp := signS_ge (by omega) hsg
                    rw [hsg] at HSG HF9
                    have HF10 : Hid (((M p2 nn).then fun l p3 n3 => if p3 = s.size then .bad 290 p3 else if byt s (skip s (p3 + 1)) = 125 then .ok (cs ++ [(key, l)]) (skip s (p3 + 1)) n3 else caseF s M pt.k ff (cs ++ [(key, l)]) (skip s (p3 + 1)) n3) = RR) := HF9.out
                    clear hsg HF9
                    refine HSG.out.mono ?_
                    rintro x w11 ⟨rfl, hR11, hk11⟩
                    have hk11r := HK10r.out.same hk11
                    have hA11 := HA10.out.keep hk11 (by simp; omega)
                    have hH11 := HH6.out.keep hk11r (fun x hx hc => by simp at hc; exact (HVG.out x hx).1 hc)
                    have NKB : Hid (w8.heap.size ∉ g :: vv.ownBlock.toList) := fun hx => by
                      rcases List.mem_cons.1 hx with h | h
                      · omega
                      · exact own_blk_ne hH11 hA11 (by decide) (by simpa using h)
                    have NKC : Hid (w11.heap.size ∉ g :: vv.ownBlock.toList) := fun hx => by
                      rcases List.mem_cons.1 hx with h | h
                      · have := hR11.lt; omega
                      · have := (World.ownsRow.lt hH11 w11.heap.size (by simpa using h)).2; omega
                    have HH11 := Lib.hid hH11
                    have hmo : M p2 nn ≠ .out := fun hc => HNO.out (by rw [← HF10.out, hc]; rfl)
                    have hmb : ∀ e r, M p2 nn ≠ .bad e r := fun e r hc => hok e r (HSIGN.out e r (by rw [← HF10.out, hc]; rfl))
                    have hmm : msgF s f (d + 1) (topB (hl ++ [kb])) [] p2 nn = M p2 nn := by rw [HM2.out, topB_snoc]
                    have HMSG : Hid (∀ W, Keep [] w11 W → Calls Tryz.prog 36 #[.pointer (some ⟨g, 0, none⟩)] W (MPost f W B g s p2 (d + 1) vv (hl ++ [kb]) (msgF s f (d + 1) (topB (hl ++ [kb])) [] p2 nn))) := fun W hW =>
                      hM W B g p2 nn (d + 1) vv (hl ++ [kb]) (HE.out.below (HBEL.out _ ((HK6.out.same (hk11r.mono (fun x hx => .inl (by simp at hx; simp [hx])))).nil hW))) hBg (hR11.keep hW (by simp)) (hH11.keep hW (by simp)) hsp.2 hnn (by omega) (by simp [HLD.out]) (by rw [hmm]; exact hmo) (by rw [hmm]; exact hmb)
                    rw [hmm] at HMSG
                    have a0 : w11.cell? ⟨w8.heap.size, 0, none⟩ = some (.string key) := hA11.cell_eq rfl
                    have HR11 := Lib.hid hR11
                    have HK11r := Lib.hid hk11r
                    have HA11 := Lib.hid hA11
                    have hz11 : w8.heap.size < w11.heap.size := HA11.out.lt
                    clear hR11 hk11 hk11r hA11 hH11 hmm HSG
                    cases hmr : M p2 nn with
                    | out => exact absurd hmr hmo
                    | bad e r =>
                      exact absurd (HSIGN.out e r (by rw [← HF10.out, hmr]; rfl)) (hok e r)
                    | ok l p3 n3 =>
                      rw [hmr] at HMSG HF10
                      have HF11 : Hid ((if p3 = s.size then .bad 290 p3 else if byt s (skip s (p3 + 1)) = 125 then .ok (cs ++ [(key, l)]) (skip s (p3 + 1)) n3 else caseF s M pt.k ff (cs ++ [(key, l)]) (skip s (p3 + 1)) n3) = RR) := HF10.out
                      clear hmr hmo hmb HF10
                      go_upto_region 18 with fail
                      go_cut [9] (fun u W => ∃ (cbk : Nat) (u12 v12 : Value) (S12 : Nat → Prop), u = .pointer (some ⟨cbk, 0, none⟩) ∧ Blk W cbk 51 #[.string key, u12] ∧ Lies (f + 1) S12 W u12 l ∧ (∀ b, S12 b → w11.heap.size ≤ b ∧ b < W.heap.size ∧ b ∉ v12.ownBlock.toList ∧ b ≠ cbk) ∧ Rr W g s p3 n3 (d + 1) v12 ∧ Hs B W v12 (hl ++ [kb]) ∧
                        (∀ b ∈ v12.ownBlock.toList, b ∈ vv.ownBlock.toList ∨ w11.heap.size ≤ b) ∧ Keep (g :: vv.ownBlock.toList) w11 W ∧ p2 ≤ p3 ∧ p3 ≤ s.size ∧ n3 ≤ 1024 ∧ w11.heap.size ≤ cbk)
                      case first =>
                        go_region_held3 (fun W => W.cell? ⟨w8.heap.size, 0, none⟩ = some (.string key)) (first | go_keep | exact a0 | exact a1 | exact (Blk.far (Blk.far hkb12 (by simp; omega) _) (by simp; omega) _).cell_eq rfl) (first | (go_at_call 36; refine (HMSG.out _ (by repeat (first | exact Keep.refl _ _ | refine Keep.drew ?_ | refine Keep.alloc ?_ _))).mono ?_; rintro x w12 ⟨u12, v12, S12, rfl, hL12, hS12, hR12, hH12, hV12, hK12, hp3a, hp3b, hn3⟩; obtain ⟨A12, m12, cap12, rfl⟩ := hL12.form; have hkb12 : Blk w12 w8.heap.size 9 #[.string key] := ((HA11.out.keep (bs := []) (by repeat (first | exact Keep.refl _ _ | refine Keep.drew ?_ | refine Keep.alloc ?_ _)) (by simp)).keep hK12 NKB.out); have a1 : w12.cell? ⟨w8.heap.size, 0, none⟩ = some (.string key) := hkb12.cell_eq rfl; have hzk : w8.heap.size < w12.heap.size := (by have := hK12.size; simp at this; omega); first | (obtain ⟨hbx, x0, x1, y0, y1⟩ := caseBox hK12 NKC.out; have HBX := Lib.hid hbx) | skip))
                        all_goals
                          go_wp2_with fail
                          go_meet
                        · refine ⟨w12.heap.size, .slice A12 m12 cap12, v12, S12, rfl, Blk.new _ _ _, hL12.keep (bs := []) ((Keep.refl _ _).alloc _) (by simp), fun b hb => ?_, Blk.alloc hR12 _, hH12.keep (bs := []) ((Keep.refl _ _).alloc _) (by simp), hV12, ((Keep.refl _ w11).drew.same hK12).alloc _, hp3a, hp3b, hn3, ?_⟩
                          · obtain ⟨h1, h2, h3⟩ := hS12 b hb
                            simp at h1
                            exact ⟨h1, by simp; omega, h3, by omega⟩
                          · have := hK12.size
                            simpa using this
                        · have hkx : Keep [w11.heap.size] w12 ((w12.setCell ⟨w11.heap.size, 0, none⟩ (.string key)).setCell ⟨w11.heap.size, 1, none⟩ (.slice A12 m12 cap12)) := ((Keep.refl _ _).setCell (p := ⟨w11.heap.size, 0, none⟩) (.inl (by simp)) _).setCell (p := ⟨w11.heap.size, 1, none⟩) (.inl (by simp)) _
                          have hbc : w11.heap.size ∉ v12.ownBlock.toList := fun hx => own_blk_ne hH12 HBX.out (by decide) (by simpa using hx)
                          refine ⟨w11.heap.size, .slice A12 m12 cap12, v12, S12, rfl, Blk.set_ (Blk.set_ HBX.out 0 _) 1 _, hL12.keep hkx (fun x hx hc => ?_), fun b hb => ?_, hR12.keep hkx (by have := HR11.out.lt; simp; omega), hH12.keep hkx (fun x hx hc => by simp at hc; subst hc; exact hbc hx), fun b hb => ?_, ?_, hp3a, hp3b, hn3, Nat.le_refl _⟩
                          · simp at hx
                            subst hx
                            have := (hS12 _ hc).1
                            simp at this
                            omega
                          · obtain ⟨h1, h2, h3⟩ := hS12 b hb
                            simp at h1
                            exact ⟨by omega, by simpa [World.setCell] using h2, h3, by omega⟩
                          · rcases hV12 b hb with h | h
                            · exact .inl h
                            · simp at h
                              exact .inr (by omega)
                          · exact ((((Keep.refl (g :: vv.ownBlock.toList) w11).alloc _).drew.same hK12).setCell (p := ⟨w11.heap.size, 0, none⟩) (.inr (Nat.le_refl _)) _).setCell (p := ⟨w11.heap.size, 1, none⟩) (.inr (Nat.le_refl _)) _
                      case rest =>
                        obtain ⟨cbk, u12, v12, S12, rfl, hC12, hL12, hS12, hR12, hH12, hV12, hK12, hp3a, hp3b, hn3, hcb⟩ := hcut
                        by_cases hp3 : p3 = s.size
                        · exact absurd (HSIGN.out 290 p3 (by rw [← HF11.out, if_pos hp3])) (hok _ _)
                        have hp3' : p3 < s.size := by omega
                        have HF12 : Hid ((if byt s (skip s (p3 + 1)) = 125 then .ok (cs ++ [(key, l)]) (skip s (p3 + 1)) n3 else caseF s M pt.k ff (cs ++ [(key, l)]) (skip s (p3 + 1)) n3) = RR) := by have := HF11.out; rw [if_neg hp3] at this; exact this
                        have e3 : ((p3 : Int) == (s.size : Int)) = false := by simp; omega
                        have e4 : (p3 == s.size) = false := by simpa using hp3
                        obtain ⟨c0, c1, c2, c3, c4, f1, f2, f3, f4⟩ := hR12.cells
                        have hkw : Keep (g :: vv.ownBlock.toList) wr wc := (HK11r.out.mono (fun x hx => .inl (by simp at hx; simp [hx]))).same hK12
                        have hnp : pb ∉ g :: vv.ownBlock.toList := fun hx => by
                          rcases List.mem_cons.1 hx with h | h
                          · exact HGP.out h.symm
                          · exact (HVG.out pb h).2.1 rfl
                        have hP12 := HP6.out.keep hkw hnp
                        have hO12 := HO6.out.keep hkw (fun x hx hc => by
                          rcases List.mem_cons.1 hx with h | h
                          · subst h; have := (HS6.out x hc).1; omega
                          · exact (HS6.out x hc).2.2.1 h) (fun x hx hc => by
                          rcases List.mem_cons.1 hc with h | h
                          · exact HCGG.out x hx h
                          · exact (HVG.out x h).2.2 hx)
                        have hcp : cbk ≠ pb := Blk.ne_ hC12 hP12 (by decide)
                        have hcg2 : cbk ≠ g := Blk.ne_ hC12 hR12 (by decide)
                        have HC12 := Lib.hid hC12
                        have HL12 := Lib.hid hL12
                        have HS12 := Lib.hid hS12
                        have HR12 := Lib.hid hR12
                        have HH12 := Lib.hid hH12
                        have HV12 := Lib.hid hV12
                        have HKW := Lib.hid hkw
                        have HP12 := Lib.hid hP12
                        have HO12 := Lib.hid hO12
                        have hzw := hkw.size
                        have hz11r : wr.heap.size ≤ w11.heap.size := HK11r.out.size
                        clear hC12 hL12 hS12 hR12 hH12 hV12 hK12 hkw hP12 hO12 HF11 hp3 hnp
                        go_wp2_with fail
                        go_quiet (fail)
                        go_upto_region 22 with fail
                        generalize hWW : World.setCell (World.drewN wc _) ⟨g, 1, none⟩ (.int .i64 ((p3 : Int) + 1)) = W1
                        have hR13 : Rr W1 g s (p3 + 1) n3 (d + 1) v12 := by rw [← hWW]; exact (HR12.out.drewN _).setAt (p3 + 1) _ (by omega)
                        have hK13 : Keep [g] wc W1 := by rw [← hWW]; exact ((Keep.refl _ _).drewN _).setCell (.inl (by simp)) _
                        clear hWW c0 c1 c2 c3 c4 f1 f2 f3 f4
                        have hgv12 : ∀ x ∈ v12.ownBlock.toList, x ≠ g := fun x hx => by rintro rfl; exact own_blk_ne HH12.out HR12.out (by decide) (by simpa using hx)
                        have hP13 := HP12.out.keep hK13 (by have := HGP.out; simp; omega)
                        have hC13 := HC12.out.keep hK13 (by simpa using hcg2)
                        have hH13 := HH12.out.keep hK13 (fun x hx hc => by simp at hc; exact hgv12 x hx hc)
                        have hO13 := HO12.out.keep hK13 (fun x hx hc => by simp at hx; subst hx; have := (HS6.out x hc).1; omega) (fun x hx hc => by simp at hc; exact HCGG.out x hx hc)
                        have hL13 := HL12.out.keep hK13 (fun x hx hc => by simp at hx; subst hx; have := (HS12.out x hc).1; have := HR11.out.lt; omega)
                        obtain ⟨A12, m12, k12, rfl⟩ := hL13.form
                        obtain ⟨us, hus, how, hch⟩ := hO13
                        have q6 : W1.cell? ⟨pb, 6, none⟩ = some cv := hP13.cell_eq rfl
                        have q0' : W1.cell? ⟨cbk, 0, none⟩ = some (.string key) := hC13.cell_eq rfl
                        have q1' : W1.cell? ⟨cbk, 1, none⟩ = some (.slice A12 m12 k12) := hC13.cell_eq rfl
                        have hgC : cbk < W1.heap.size := hC13.lt
                        have hgP : pb < W1.heap.size := hP13.lt
                        have hBW : w.heap.size ≤ W1.heap.size := by have := hK13.size; omega
                        have hpo2 : some pb ≠ cv.ownBlock := fun hc => by have := (HCG.out pb (by rw [← hc]; simp)).1; omega
                        have HR13 := Lib.hid hR13
                        have HP13 := Lib.hid hP13
                        have HC13 := Lib.hid hC13
                        have HH13 := Lib.hid hH13
                        have HL13 := Lib.hid hL13
                        have HOW13 := Lib.hid how
                        have HCH13 := Lib.hid hch
                        have HUS := Lib.hid hus
                        have HK13 := Lib.hid hK13
                        obtain ⟨ic, hic, ic0, ic1, ic2⟩ := info_parts infoCase
                        have HIC := Lib.hid hic
                        have HIC0 := Lib.hid ic0
                        have HIC1 := Lib.hid ic1
                        have HIC2 := Lib.hid ic2
                        have hcl2 : cs.length ≤ 1000000000 := by omega
                        clear hR13 hP13 hC13 hH13 hL13 how hch hus hK13 hgv12 hic ic0 ic1 ic2
                        generalize hcn : cs.length = cn at *
                        have HCN := Lib.hid hcn
                        clear hcn
                        go_cut [] (fun W => ∃ cv2, Rr W g s (p3 + 1) n3 (d + 1) v12 ∧ Blk W pb 47 (({ pt with off := off } : PT).cells cv2).toArray ∧ OwnK (f + 1) (fun b => S b ∨ S12 b) W w.heap.size cv2 (cs ++ [(key, l)]) ∧ (∀ b ∈ cv2.ownBlock.toList, b ∈ cv.ownBlock.toList ∨ W1.heap.size ≤ b) ∧ Keep (pb :: cv.ownBlock.toList) W1 W)
                        case first =>
                          go_region_law (first | (refine step_append_lies _ (by rfl) _ _ _ (by rfl) w.heap.size 51 ic _ 2 40 Tryz.underlying45 HIC.out HIC0.out HIC1.out HIC2.out rfl (by omega) cv cn (caseC cs us) (by rfl) ((World.ownsRow.alloc HOW13.out _).drew) ⟨W1.heap.size, 0, none⟩ 1 1 [.string key, .slice A12 m12 k12] (by rfl) (by rfl) (World.news_of_block (cs := #[.string key, .slice A12 m12 k12]) (t := 51) (fr := (0, 0)) (heap_alloc_new W1 _)) (by simp [Value.oneCell']) (by omega) (by unfold maxLen; omega) (by omega) (by simp; omega) (W1.heap.size + 1) (by simp) ?_; intro gg cap2 w14 hown14 hgrow hat hlt; have hP14 : Blk w14 pb 47 (({ pt with off := off } : PT).cells cv).toArray := Blk.grown (Blk.drew (Blk.alloc HP13.out _)) hgrow hpo2; have r6 : w14.cell? ⟨pb, 6, none⟩ = some cv := hP14.cell_eq rfl; have rz := hP14.frozen 6; have HP14 := Lib.hid hP14; clear hP14))
                          all_goals
                            go_wp2_with fail
                            go_meet
                            have hk14 : Keep cv.ownBlock.toList W1 w14 := (((Keep.refl _ W1).alloc _).drew).grown hgrow fun k hk => .inl (by simpa using hk)
                            have hpg : pb ≠ gg := by
                              intro hc
                              subst hc
                              rcases hat with h | h
                              · exact hpo2 h.symm
                              · omega
                            have hks : Keep [pb] w14 (w14.setCell ⟨pb, 6, none⟩ (.slice (some ⟨gg, 0, none⟩) (cn + 1) cap2)) := (Keep.refl _ _).setCell (.inl (by simp)) _
                            refine ⟨.slice (some ⟨gg, 0, none⟩) (cn + 1) cap2, (HR13.out.keep hk14 (fun hc => HCGG.out g hc rfl)).keep hks (by have := HGP.out; simpa using this), Blk.set_ HP14.out 6 _, OwnK.more (us := us) (pv := .slice A12 m12 k12) (c := (key, l)) (by rw [HUS.out, HCN.out]) ?_ (fun j c pv hj hq => ?_) ?_, fun b hb => ?_, ?_⟩
                            · rw [HCN.out]
                              exact ownsRow_keep hown14 hks (fun x hx hc => by simp [Value.ownBlock] at hx hc; omega)
                            · refine ((HCH13.out j c pv hj hq).keep hk14 (fun x hx hc => (HS6.out x hc).2.2.2 hx)).keep hks (fun x hx hc => ?_)
                              simp at hx
                              subst hx
                              have := (HS6.out x hc).1
                              omega
                            · refine (HL13.out.keep hk14 (fun x hx hc => ?_)).keep hks (fun x hx hc => ?_)
                              · have h1 := (HCG.out x hx).2
                                have h2 := (HS12.out x hc).1
                                omega
                              · simp at hx
                                subst hx
                                have h2 := (HS12.out x hc).1
                                omega
                            · simp [Value.ownBlock] at hb
                              subst hb
                              rcases hat with h | h
                              · exact .inl (by simp [h])
                              · exact .inr (by omega)
                            · exact (hk14.mono (fun x hx => .inl (List.mem_cons_of_mem _ hx))).same (hks.mono (fun x hx => .inl (by simp at hx; simp [hx])))
                        case rest =>
                          obtain ⟨cv2, hR15, hP15, hO15, hV15, hK15⟩ := hcut
                          have hz15 := hK15.size
                          have hz13 := HK13.out.size
                          have hgo15 : ∀ x ∈ v12.ownBlock.toList, x ≠ g := fun x hx => by rintro rfl; exact own_blk_ne HH13.out HR13.out (by decide) (by simpa using hx)
                          have hpo15 : ∀ x ∈ v12.ownBlock.toList, x ≠ pb := fun x hx => by rintro rfl; exact own_blk_ne HH13.out HP13.out (by decide) (by simpa using hx)
                          have hcv15 : ∀ x ∈ v12.ownBlock.toList, x ∉ cv.ownBlock.toList := fun x hx hc => by
                            rcases HV12.out x hx with h | h
                            · exact (HVG.out x h).2.2 hc
                            · have := (HCG.out x hc).2; omega
                          have hH15 := HH13.out.keep hK15 (fun x hx hc => by
                            rcases List.mem_cons.1 hc with h | h
                            · exact hpo15 x hx h
                            · exact hcv15 x hx h)
                          have HR15 := Lib.hid hR15
                          have HP15 := Lib.hid hP15
                          have HO15 := Lib.hid hO15
                          have HV15 := Lib.hid hV15
                          have HK15 := Lib.hid hK15
                          have HH15 := Lib.hid hH15
                          have HG15 := Lib.hid hgo15
                          clear hR15 hP15 hO15 hV15 hK15 hH15 q6 q0' q1'
                          have hsk := skip_ge s (p3 + 1)
                          have hsk2 := skip_le s (p3 + 1) (by omega)
                          have hqp1 := hkp.1
                          have hqp2 := hsp.1
                          have HBL := Lib.hid (blanks_any wc g s (p3 + 1) n3 (d + 1) v12 HR15.out (by omega) (by omega))
                          go_wp2_with (go_at_call 95; refine HBL.out.mono ?_; rintro x w16 ⟨rfl, hR16, hk16⟩)
                          have hz16 := hk16.size
                          go_roundw
                          case rel =>
                            refine ⟨false, cs ++ [(key, l)], skip s (p3 + 1), n3, ff, v12, cv2, fun b => S b ∨ S12 b, rfl, hR16, HH15.out.keep hk16 (fun x hx hc => by simp at hc; exact HG15.out x hx hc), HP15.out.keep hk16 (by have := HGP.out; simp; omega), HO15.out.keep hk16 (fun x hx hc => ?_) (fun x hx hc => ?_), fun b hb => ?_, fun b hb => ?_, ?_, by omega, hsk2, hn3, by rw [List.length_append, HCN.out]; simp; omega, ?_⟩
                            · simp at hx
                              subst hx
                              rcases hc with h | h
                              · have := (HS6.out x h).1; omega
                              · have := (HS12.out x h).1; omega
                            · simp at hc
                              subst hc
                              rcases HV15.out x hx with h | h
                              · exact HCGG.out x h rfl
                              · omega
                            · rcases hb with hb | hb
                              · obtain ⟨h1, h2, h3, h4⟩ := HS6.out b hb
                                refine ⟨h1, by omega, fun hc => ?_, fun hc => ?_⟩
                                · rcases HV12.out b hc with h | h
                                  · exact h3 h
                                  · omega
                                · rcases HV15.out b hc with h | h
                                  · exact h4 h
                                  · omega
                              · obtain ⟨h1, h2, h3, h4⟩ := HS12.out b hb
                                refine ⟨by omega, by omega, h3, fun hc => ?_⟩
                                rcases HV15.out b hc with h | h
                                · have := (HCG.out b h).2; omega
                                · omega
                            · rcases HV12.out b hb with h | h
                              · exact HV6.out b h
                              · exact .inr (by omega)
                            · refine (((HK6.out.trans HKW.out (fun x hx => ?_)).same (HK13.out.mono (fun x hx => .inl (by simp at hx; simp [hx])))).trans HK15.out (fun x hx => ?_)).same (hk16.mono (fun x hx => .inl (by simp at hx; simp [hx])))
                              · rcases List.mem_cons.1 hx with h | h
                                · exact .inl (by simp [h])
                                · rcases HV6.out x h with h | h
                                  · exact .inl (by simp at h ⊢; exact .inr (.inr h))
                                  · exact .inr h
                              · rcases List.mem_cons.1 hx with h | h
                                · exact .inl (by simp [h])
                                · exact .inr (HCG.out x h).1
                            · have := HF12.out
                              simpa using this
                          case measure => rw [HR6.out.at_, hR16.at_]; omega
end Go.Proofs.YtjldgcpmdcoejaaGreatDoor
