/- Walks: numpat's digits. -/
import Derived.Test.YtkkglaglnfebjaaDoorWAround
import Derived.Test.YtkkglaglnfebjaaDoorND
import Derived.Deep.DeepCutAuto
import Derived.Deep.LoopGhost
namespace Go.Proofs.YtkkglaglnfebjaaDoor
open Go.RowKit

theorem takeY (w : World) (g : Nat) (s : ByteArray) (p : Nat) (e ea : Int) (bI : Int) (b : Nat) (hb : bI = b) (h : Rd w g s p e ea) (hs : s.size ≤ 9223372036854775800) (hp : isB s p b) :
    Calls Tryd.prog 43 #[.pointer (some ⟨g, 0, none⟩), .int .u8 bI] w fun x w' => x = .returned (.bool true) ∧ Rd w' g s (p + 1) e ea ∧ Keep [g] w w' :=
  take_yes w g s p e ea bI h hs hp.1 (by rw [← get!_eq s p hp.1, hp.2, hb])
theorem takeN (w : World) (g : Nat) (s : ByteArray) (p : Nat) (e ea : Int) (bI : Int) (b : Nat) (hb : bI = b) (h : Rd w g s p e ea) (hs : s.size ≤ 9223372036854775800) (hp : ¬ isB s p b) :
    Calls Tryd.prog 43 #[.pointer (some ⟨g, 0, none⟩), .int .u8 bI] w fun x w' => x = .returned (.bool false) ∧ Rd w' g s p e ea ∧ Keep [] w w' := by
  by_cases hq : p < s.size
  · exact take_no w g s p e ea bI h hs hq (by rw [← get!_eq s p hq, hb]; intro hc; exact hp ⟨hq, by omega⟩)
  · exact take_end w g s p e ea bI h hs (by omega)

/-- numpat's pattern in block h. -/
def Pat (w : World) (h : Nat) (vp vs vn np ns : Value) (mi mf xf g1 g2 : Int) : Prop :=
  Blk w h 25 #[vp, vs, vn, np, ns, .int .i64 mi, .int .i64 mf, .int .i64 xf, .int .i64 g1, .int .i64 g2]
section
variable {w : World} {h : Nat} {vp vs vn np ns : Value} {mi mf xf g1 g2 : Int}
theorem Pat.cells (H : Pat w h vp vs vn np ns mi mf xf g1 g2) :
    w.cell? ⟨h, 5, none⟩ = some (.int .i64 mi) ∧ w.cell? ⟨h, 6, none⟩ = some (.int .i64 mf) ∧ w.cell? ⟨h, 7, none⟩ = some (.int .i64 xf) ∧ w.cell? ⟨h, 8, none⟩ = some (.int .i64 g1) ∧ w.cell? ⟨h, 9, none⟩ = some (.int .i64 g2) ∧ ∀ i, w.frozen? ⟨h, i, none⟩ = false :=
  ⟨H.cell_eq rfl, H.cell_eq rfl, H.cell_eq rfl, H.cell_eq rfl, H.cell_eq rfl, H.frozen⟩
theorem Pat.set5 (H : Pat w h vp vs vn np ns mi mf xf g1 g2) (v x : Int) (hv : v = x) : Pat (w.setCell ⟨h, 5, none⟩ (.int .i64 v)) h vp vs vn np ns x mf xf g1 g2 := by subst hv; exact Blk.set_ H 5 _
theorem Pat.set6 (H : Pat w h vp vs vn np ns mi mf xf g1 g2) (v x : Int) (hv : v = x) : Pat (w.setCell ⟨h, 6, none⟩ (.int .i64 v)) h vp vs vn np ns mi x xf g1 g2 := by subst hv; exact Blk.set_ H 6 _
theorem Pat.set7 (H : Pat w h vp vs vn np ns mi mf xf g1 g2) (v x : Int) (hv : v = x) : Pat (w.setCell ⟨h, 7, none⟩ (.int .i64 v)) h vp vs vn np ns mi mf x g1 g2 := by subst hv; exact Blk.set_ H 7 _
theorem Pat.set8 (H : Pat w h vp vs vn np ns mi mf xf g1 g2) (v x : Int) (hv : v = x) : Pat (w.setCell ⟨h, 8, none⟩ (.int .i64 v)) h vp vs vn np ns mi mf xf x g2 := by subst hv; exact Blk.set_ H 8 _
theorem Pat.set9 (H : Pat w h vp vs vn np ns mi mf xf g1 g2) (v x : Int) (hv : v = x) : Pat (w.setCell ⟨h, 9, none⟩ (.int .i64 v)) h vp vs vn np ns mi mf xf g1 x := by subst hv; exact Blk.set_ H 9 _
end
/-- A slice of the call's own of whole numbers. -/
def OwnI (w : World) (B : Nat) (v : Value) (l : List Int) : Prop := w.ownsRow B 3 1 v l.length (l.map (Value.int .i64))
theorem OwnI.lt {w : World} {B : Nat} {v : Value} {l : List Int} (h : OwnI w B v l) : ∀ x ∈ v.ownBlock.toList, B ≤ x := fun x hx => (World.ownsRow.lt h x (by simpa using hx)).1
theorem OwnI.keep {w w' : World} {B : Nat} {v : Value} {l : List Int} {bs : List Nat} (h : OwnI w B v l) (hk : Keep bs w w') (hb : ∀ x ∈ v.ownBlock.toList, x ∉ bs) : OwnI w' B v l := by
  refine ⟨h.1, ?_⟩
  rcases h.2 with hn | ⟨g, cap, cur, rfl, hB, hg, rest⟩
  · exact .inl hn
  · refine .inr ⟨g, cap, cur, rfl, hB, ?_, rest⟩
    rw [hk.block g (Array.getElem?_eq_some_iff.1 hg).1 (hb g (by simp [Value.ownBlock]))]
    exact hg
theorem OwnI.form {w : World} {B : Nat} {v : Value} {l : List Int} (h : OwnI w B v l) : ∃ A cap, v = .slice A l.length cap ∧ (l ≠ [] → ∃ g, A = some ⟨g, 0, none⟩ ∧ B ≤ g ∧ g < w.heap.size ∧ ∀ i x, l[i]? = some x → w.cell? ⟨g, i, none⟩ = some (.int .i64 x)) := by
  have h' := h
  rcases h.2 with ⟨rfl, h0⟩ | ⟨g, cap, cur, rfl, hB, hg, _⟩
  · exact ⟨none, 0, by rw [h0], fun hl => absurd (List.eq_nil_of_length_eq_zero h0) hl⟩
  · exact ⟨_, _, rfl, fun _ => ⟨g, rfl, hB, (Array.getElem?_eq_some_iff.1 hg).1, fun i x hx => by
      have hi := (List.getElem?_eq_some_iff.1 hx).1
      rw [World.ownsRow.cellAt h' i (by omega), List.getElem?_map, hx]; rfl⟩⟩
theorem infoInt : (Tryd.prog.info? 3).map (fun i => (i.zero, i.size, i.bytes)) = some (some (.int .i64 0), 1, 8) := by kernel_rfl
/-- append of one number. -/
theorem wpList_append_int {ops : Array Oper} {rest : List Oper} {o : Oper} {a : Act} {Q : Exit → Act → World → Prop} (hgd : o.guard = none) (s x : Operand)
    (ho : o.op = .call { callee := .builtin .append, args := #[s, x], argTypes := #[88, 88] })
    {w0 : World} {B : Nat} {v : Value} {l : List Int} (hs : a.eval s = v) (hown : OwnI w0 B v l) (n : Nat) (hn : w0.heap.size = n) (p : Int) (hx : a.eval x = .slice (some ⟨n, 0, none⟩) 1 1)
    (hlen : l.length ≤ 1000000000000) (hB : B ≤ w0.heap.size)
    (h : ∀ v' w', OwnI w' B v' (l ++ [p]) → Keep v.ownBlock.toList w0 w' → wpList Tryd.prog ops Q rest (a.put o.dst v') w') : wpList Tryd.prog ops Q (o :: rest) a (w0.alloc (.cells #[.int .i64 p] 3)) := by
  obtain ⟨i0, hi, hz0, hz1, hz2⟩ := info_parts infoInt
  refine wpList_append_own _ hgd s x 88 ho B 3 i0 _ 1 8 Tryd.underlying88 hi hz0 hz1 hz2 rfl (by decide) v l.length (l.map (Value.int .i64)) hs (World.ownsRow.alloc hown _) ⟨n, 0, none⟩ 1 1 [.int .i64 p] hx rfl (new_cells w0 n hn [.int .i64 p] _) ?_ (by unfold maxLen; omega) (by omega) (by simp; omega) ?_
  · intro u hu
    simp only [List.mem_cons, List.mem_nil_iff, or_false] at hu
    rw [hu]; rfl
  · intro v' w' h1 h2 _
    refine h v' w' ?_ (((Keep.refl _ w0).alloc _).grown h2 fun k hk => .inl (by simpa using hk))
    unfold OwnI
    rw [List.map_append]
    simpa using h1

def DPost (w : World) (g h : Nat) (s : ByteArray) (e ea : Int) (vp vs vn np ns : Value) : Except (Int × Nat) DRes → Ending → World → Prop
  | .ok r, x, w' => x = .returned (.bool true) ∧ Rd w' g s r.q e ea ∧ Pat w' h vp vs vn np ns r.mi r.mf r.xf r.g1 r.g2 ∧ Keep [g, h] w w'
  | .error y, x, w' => x = .returned (.bool false) ∧ (∃ q, Rd w' g s q y.1 y.2) ∧ Keep [g, h] w w'

theorem OwnI.setRd {w : World} {B g : Nat} {v : Value} {l : List Int} (h : OwnI w B v l) (hg : g < B) (i : Nat) (u : Value) : OwnI (w.setCell ⟨g, i, none⟩ u) B v l :=
  h.keep (bs := [g]) ((Keep.refl _ _).setCell (.inl (by simp)) _) (fun x hx hc => by have := h.lt x hx; simp at hc; omega)
/-- What holds of the loop over the digits ahead of the point. -/
structure DL (w : World) (g h : Nat) (s : ByteArray) (p : Nat) (e ea : Int) (vp vs vn np ns : Value) (c n f : Value) (wx : World) (q k : Nat) (fr : Bool) (cm : List Int) (mi : Nat) : Prop where
  en : n = .int .i64 k
  ef : f = .bool fr
  own : OwnI wx w.heap.size c cm
  rd : Rd wx g s q e ea
  pat : Pat wx h vp vs vn np ns mi 0 0 0 0
  kp : Keep [g, h] w wx
  inn : DIn s p q k cm mi

set_option maxRecDepth 100000 in
set_option maxHeartbeats 4000000 in
theorem digits_any (w : World) (g h : Nat) (s : ByteArray) (p : Nat) (e ea : Int) (vp vs vn np ns : Value) (hR : Rd w g s p e ea) (hP : Pat w h vp vs vn np ns 0 0 0 0 0) (hgh : g ≠ h) (hs : s.size ≤ 100000000) (hp : p ≤ s.size) :
    Calls Tryd.prog 91 #[.pointer (some ⟨g, 0, none⟩), .pointer (some ⟨h, 0, none⟩)] w (DPost w g h s e ea vp vs vn np ns (digitsS s p)) := by
  obtain ⟨c0, c1, c2, c3, f1, f2, f3⟩ := hR.cells
  have HR := Lib.hid hR
  have HP := Lib.hid hP
  have hgl := hR.lt
  have hhl := Blk.lt hP
  clear hR hP
  go_enter Tryd.func91, Tryd.ntmps91
  go_upto_block 0 with fail
  go_cut [6, 7, 8] (fun c n f wx => ∃ (q k : Nat) (fr : Bool) (cm : List Int) (mi : Nat), DL w g h s p e ea vp vs vn np ns c n f wx q k fr cm mi ∧ dLoop s (s.size + 1 - p) p 0 true [] 0 = (q, k, fr, cm, mi))
  case first =>
    go_wp2_with fail
    go_loopg [6, 7, 8] (s.size + 1 - p) (fun fu c n f wx => ∃ (q k : Nat) (fr : Bool) (cm : List Int) (mi : Nat), DL w g h s p e ea vp vs vn np ns c n f wx q k fr cm mi ∧ s.size < q + fu ∧ dLoop s fu q k fr cm mi = dLoop s (s.size + 1 - p) p 0 true [] 0)
    case atStart => exact ⟨p, 0, true, [], 0, ⟨rfl, rfl, World.ownsRow_nil _ _ _ _, HR.out, HP.out, Keep.refl _ _, ⟨Nat.le_refl _, hp, Nat.zero_le _, Nat.le_refl _, Nat.zero_le _, fun a h => by cases h⟩⟩, by omega, rfl⟩
    case round =>
      obtain ⟨q, k, fr, cm, mi, ⟨rfl, rfl, hO, hR, hP, hK, hI⟩, hfu, hL⟩ := hrel
      clear c0 c1 c2 c3 f1 f2 f3
      have hqs := hI.qs
      obtain ⟨fu, rfl⟩ : ∃ f, gk = f + 1 := ⟨gk - 1, by omega⟩
      obtain ⟨A, cap, rfl, _⟩ := hO.form
      obtain ⟨c0, c1, c2, c3, f1, f2, f3⟩ := hR.cells
      have HR1 := Lib.hid hR
      have HO1 := Lib.hid hO
      have HP1 := Lib.hid hP
      have HK1 := Lib.hid hK
      have HI := Lib.hid hI
      have HL := Lib.hid hL
      have hcl := hI.cl
      have hkn := hI.nq
      have hmn := hI.mn
      clear hR hO hP hK hI hL
      go_upto_region 4 with fail
      go_cut [43] (fun b wy => ∃ bb, b = .bool bb ∧ Hid (decide (isB s q 44 ∧ fr = false ∧ cm.length < 2) = bb) ∧ ∃ n, wy = wr.drewN n)
      case first =>
        by_cases hq : q < s.size
        · have hqi : (q : Int) < s.size := by omega
          by_cases h44 : (s.get! q).toNat = 44
          · have e1 : ((s[q].toNat : Int) == 44) = true := by rw [← get!_eq s q hq]; simp; omega
            cases fr with
            | true =>
              have HD : Hid (decide (isB s q 44 ∧ true = false ∧ cm.length < 2) = false) := by unfold Hid; simp
              clear h44
              go_quiet (fail)
              go_wp2_with fail
              go_meet
              exact ⟨_, rfl, HD, _, rfl⟩
            | false =>
              by_cases hl2 : cm.length < 2
              · have HD : Hid (decide (isB s q 44 ∧ false = false ∧ cm.length < 2) = true) := by unfold Hid; simp [isB, hq, h44, hl2]
                have hl2' : (cm.length : Int) < 2 := by omega
                clear h44
                go_quiet (fail)
                go_wp2_with fail
                go_meet
                exact ⟨_, rfl, HD, _, rfl⟩
              · have HD : Hid (decide (isB s q 44 ∧ false = false ∧ cm.length < 2) = false) := by unfold Hid; simp [hl2]
                have hl2' : decide ((cm.length : Int) < 2) = false := by simp; omega
                clear h44 hl2
                go_quiet (fail)
                go_wp2_with fail
                go_meet
                exact ⟨_, rfl, HD, _, rfl⟩
          · have HD : Hid (decide (isB s q 44 ∧ fr = false ∧ cm.length < 2) = false) := by unfold Hid; simp [isB, h44]
            have e1 : ((s[q].toNat : Int) == 44) = false := by rw [← get!_eq s q hq]; simp; omega
            clear h44
            go_quiet (fail)
            go_wp2_with fail
            go_meet
            exact ⟨_, rfl, HD, _, rfl⟩
        · have HD : Hid (decide (isB s q 44 ∧ fr = false ∧ cm.length < 2) = false) := by unfold Hid; simp [isB, hq]
          have hq' : decide (q < s.size) = false := by simpa using hq
          clear hq
          go_quiet (fail)
          go_wp2_with fail
          go_meet
          exact ⟨_, rfl, HD, _, rfl⟩
      case rest =>
        obtain ⟨bb, rfl, hbb, nd, hwc⟩ := hcut
        have HR2 : Hid (Rd wc g s q e ea) := by rw [hwc]; exact HR1.out
        have HO2 : Hid (OwnI wc w.heap.size (.slice A cm.length cap) cm) := by rw [hwc]; exact HO1.out
        have HP2 : Hid (Pat wc h vp vs vn np ns mi 0 0 0 0) := by rw [hwc]; exact HP1.out
        have HK2 : Hid (Keep [g, h] w wc) := by rw [hwc]; exact HK1.out.drewN _
        clear hwc HR1 HO1 HP1 HK1 c0 c1 c2 c3 f1 f2 f3
        obtain ⟨c0, c1, c2, c3, f1, f2, f3⟩ := HR2.out.cells
        obtain ⟨m5, m6, m7, m8, m9, mf⟩ := HP2.out.cells
        have hB2 := HK2.out.size
        cases bb with
        | true =>
          have hA := of_decide_eq_true hbb.out
          have HL2 := Lib.hid ((dLoop_comma hA.1 hA.2.1 hA.2.2).symm.trans HL.out)
          obtain ⟨hA1, hA2, hA3⟩ := hA
          have hA0 := hA1.1
          clear hA1 hbb
          go_wp2_with (at_builtin; refine wpList_append_int rfl _ _ rfl rfl HO2.out _ rfl (k : Int) rfl (by omega) hB2 ?_; intro v' w3 h3 k3; have hR3 := HR2.out.keep k3 (fun hx => by have := HO2.out.lt g hx; omega); have HP3 := Lib.hid (Blk.keep HP2.out k3 (fun hx => by have := HO2.out.lt h hx; omega)); obtain ⟨d0, d1, d2, d3, g1, g2, g3⟩ := hR3.cells; have HR3 := Lib.hid hR3; have HO3 := Lib.hid h3; have HK3 := Lib.hid (HK2.out.trans k3 (fun x hx => .inr (HO2.out.lt x hx))); clear hR3 h3 k3)
          go_roundg fu
          case measure => omega
          case rel => exact ⟨q + 1, k, true, _, mi, ⟨rfl, rfl, HO3.out.setRd hgl _ _, HR3.out.setAt (q + 1) _ (by omega), Blk.far HP3.out (by simpa using hgh.symm) _, HK3.out.setCell (.inl (by simp)) _, HI.out.comma hA0 hA3⟩, by omega, HL2.out⟩
        | false =>
          have hA := of_decide_eq_false hbb.out
          by_cases h48 : isB s q 48
          · have HL2 := Lib.hid ((dLoop_zero h48).symm.trans HL.out)
            have H48 := Lib.hid h48
            have hA0 := h48.1
            clear h48 hA hbb
            go_wp2_with fail
            refine (takeY _ g s q e ea 48 48 rfl HR2.out (by omega) H48.out).mono ?_
            rintro y w3 ⟨rfl, hR3, k3⟩
            have hP3 := Blk.keep HP2.out k3 (by simpa using hgh.symm)
            have HR3 := Lib.hid hR3
            have HP3 : Hid (Pat w3 h vp vs vn np ns mi 0 0 0 0) := hP3
            have HK3 := Lib.hid (HK2.out.trans k3 (fun x hx => .inl (by simp at hx; simp [hx])))
            have HO3 := Lib.hid (HO2.out.keep k3 (fun x hx hc => by have := HO2.out.lt x hx; simp at hc; omega))
            clear hR3 hP3 k3 m5 m6 m7 m8 m9 mf c0 c1 c2 c3 f1 f2 f3
            obtain ⟨m5, m6, m7, m8, m9, mf⟩ := HP3.out.cells
            go_wp2
            go_roundg fu
            case measure => omega
            case rel => exact ⟨q + 1, k + 1, false, cm, mi + 1, ⟨by go_num, rfl, HO3.out.setRd hhl _ _, Blk.far HR3.out (by simpa using hgh) _, HP3.out.set5 _ _ (by omega), HK3.out.setCell (.inl (by simp)) _, HI.out.digit hA0 (Nat.le_refl _)⟩, by omega, HL2.out⟩
          · have HT := Lib.hid (takeN wc g s q e ea 48 48 rfl HR2.out (by omega) h48)
            go_wp2_with fail
            refine HT.out.mono ?_
            rintro y w3 ⟨rfl, hR3, k3⟩
            have HR3 := Lib.hid hR3
            have HP3 : Hid (Pat w3 h vp vs vn np ns mi 0 0 0 0) := Blk.keep HP2.out k3 (by simp)
            have HK3 := Lib.hid (HK2.out.nil k3)
            have HO3 := Lib.hid (HO2.out.keep k3 (by simp))
            clear hR3 k3 m5 m6 m7 m8 m9 mf c0 c1 c2 c3 f1 f2 f3 HT
            obtain ⟨m5, m6, m7, m8, m9, mf⟩ := HP3.out.cells
            by_cases hm : mi = 0
            · subst hm
              by_cases h35 : isB s q 35
              · have HL2 := Lib.hid ((dLoop_hash h35 rfl).symm.trans HL.out)
                have H35 := Lib.hid h35
                have hA0 := h35.1
                clear h48 h35 hA
                go_wp2_with fail
                refine (takeY _ g s q e ea 35 35 rfl HR3.out (by omega) H35.out).mono ?_
                rintro y w4 ⟨rfl, hR4, k4⟩
                have HR4 := Lib.hid hR4
                have HP4 : Hid (Pat w4 h vp vs vn np ns (0 : Nat) 0 0 0 0) := Blk.keep HP3.out k4 (by simpa using hgh.symm)
                have HK4 := Lib.hid (HK3.out.trans k4 (fun x hx => .inl (by simp at hx; simp [hx])))
                have HO4 := Lib.hid (HO3.out.keep k4 (fun x hx hc => by have := HO3.out.lt x hx; simp at hc; omega))
                clear hR4 k4
                go_wp2
                go_roundg fu
                case measure => omega
                case rel => exact ⟨q + 1, k + 1, false, cm, 0, ⟨by go_num, rfl, HO4.out, HR4.out, HP4.out, HK4.out, HI.out.digit hA0 (by omega)⟩, by omega, HL2.out⟩
              · have HL2 := Lib.hid (HL.out.symm.trans (dLoop_stop hA h48 (fun hc => h35 hc.2)))
                have HT := Lib.hid (takeN w3 g s q e ea 35 35 rfl HR3.out (by omega) h35)
                clear h48 h35 hA
                go_wp2_with fail
                refine HT.out.mono ?_
                rintro y w4 ⟨rfl, hR4, k4⟩
                have HR4 := Lib.hid hR4
                have HP4 : Hid (Pat w4 h vp vs vn np ns (0 : Nat) 0 0 0 0) := Blk.keep HP3.out k4 (by simp)
                have HK4 := Lib.hid (HK3.out.nil k4)
                have HO4 := Lib.hid (HO3.out.keep k4 (by simp))
                clear hR4 k4 HT
                go_wp2_with fail
                go_meet
                exact ⟨q, k, fr, cm, 0, ⟨rfl, rfl, HO4.out, HR4.out, HP4.out, HK4.out, HI.out⟩, HL2.out⟩
            · have HL2 := Lib.hid (HL.out.symm.trans (dLoop_stop hA h48 (fun hc => hm hc.1)))
              have hm' : (0 : Int) < mi := by omega
              clear h48 hA hm
              go_wp2_with fail
              go_meet
              exact ⟨q, k, fr, cm, mi, ⟨rfl, rfl, HO3.out, HR3.out, HP3.out, HK3.out, HI.out⟩, HL2.out⟩
  case rest =>
    obtain ⟨q, k, fr, cm, mi, ⟨rfl, rfl, hO, hR, hP, hK, hI⟩, hL⟩ := hcut
    clear c0 c1 c2 c3 f1 f2 f3
    obtain ⟨A, cap, rfl, hfm⟩ := hO.form
    obtain ⟨c0, c1, c2, c3, f1, f2, f3⟩ := hR.cells
    obtain ⟨m5, m6, m7, m8, m9, mf⟩ := hP.cells
    have HR1 := Lib.hid hR
    have HO1 := Lib.hid hO
    have HP1 := Lib.hid hP
    have HK1 := Lib.hid hK
    have HL := Lib.hid hL
    have HF := Lib.hid hfm
    have hcl := hI.cl
    have hkn := hI.nq
    have hmn := hI.mn
    have hqs := hI.qs
    have HCB := Lib.hid hI.cb
    clear hR hO hP hK hI hL hfm
    by_cases hbad : fr = true ∨ mi = 0
    · have HD := Lib.hid (digitsS_bad HL.out hbad)
      have hfm : fr = true ∨ (fr = false ∧ mi = 0) := by cases fr <;> simp_all
      clear hbad
      rcases hfm with rfl | ⟨rfl, rfl⟩
      all_goals
        go_wp2_with (go_at_call 116; refine (fail_any _ g s q e ea _ _ HR1.out).mono ?_; rintro x w2 ⟨rfl, h2, k2⟩)
        go_ret
        rw [HD.out]
        exact ⟨rfl, ⟨q, h2⟩, HK1.out.trans k2 (fun x hx => .inl (by simp at hx; simp [hx]))⟩
    · have HBD := Lib.hid hbad
      have hfr : fr = false := by cases fr <;> simp_all
      subst hfr
      have hmi : (mi : Int) ≠ 0 := by have := not_or.1 hbad; omega
      have hmi' : ((mi : Int) == 0) = false := by simpa using hmi
      clear hbad hmi
      go_upto_block 2 with fail
      go_cut [92] (fun _ wy => Rd wy g s q e ea ∧ Pat wy h vp vs vn np ns mi 0 0 (groupsOf k cm).1 (groupsOf k cm).2 ∧ Keep [g, h] w wy)
      case first =>
        rcases cm with _ | ⟨x1, _ | ⟨x2, _ | ⟨x3, cm⟩⟩⟩
        · go_wp2_with fail
          go_meet
          exact ⟨HR1.out, HP1.out, HK1.out⟩
        · obtain ⟨gv, rfl, hgv, hgv2, hcv⟩ := HF.out (by simp)
          have e0 := hcv 0 x1 rfl
          have hx1 := HCB.out x1 (by simp)
          have hhg : h ≠ gv := by omega
          clear hcv
          go_wp2_with fail
          go_region
          all_goals
            go_wp2_with fail
            go_meet
            exact ⟨Blk.drew (Blk.far (Blk.far HR1.out hgh _) hgh _), Blk.drew (Pat.set9 (Pat.set8 HP1.out _ _ rfl) _ _ rfl), ((HK1.out.setCell (.inl (by simp)) _).setCell (.inl (by simp)) _).drew⟩
        · obtain ⟨gv, rfl, hgv, hgv2, hcv⟩ := HF.out (by simp)
          have e0 := hcv 0 x1 rfl
          have e1 := hcv 1 x2 rfl
          have hx1 := HCB.out x1 (by simp)
          have hx2 := HCB.out x2 (by simp)
          have hhg : h ≠ gv := by omega
          clear hcv
          go_wp2_with fail
          go_region
          all_goals
            go_wp2_with fail
            go_meet
            exact ⟨Blk.drew (Blk.far (Blk.far HR1.out hgh _) hgh _), Blk.drew (Pat.set9 (Pat.set8 HP1.out _ _ rfl) _ _ rfl), ((HK1.out.setCell (.inl (by simp)) _).setCell (.inl (by simp)) _).drew⟩
        · simp at hcl
      case rest =>
        obtain ⟨hR, hP, hK⟩ := hcut
        have HN := Lib.hid (fun h => digitsS_none HL.out HBD.out h)
        have HPT := Lib.hid (fun h => digitsS_point HL.out HBD.out h)
        clear HR1 HO1 HP1 HK1 HL HF HCB HBD hcl c0 c1 c2 c3 f1 f2 f3 m5 m6 m7 m8 m9 mf hmi'
        generalize (groupsOf k cm).1 = g1 at *
        generalize (groupsOf k cm).2 = g2 at *
        have HR1 := Lib.hid hR
        have HP1 := Lib.hid hP
        have HK1 := Lib.hid hK
        clear hR hP hK
        by_cases h46 : isB s q 46
        · have HPT2 := Lib.hid (HPT.out h46)
          have hq2 := h46.1
          have H46 := Lib.hid h46
          clear h46 HN HPT
          obtain ⟨z, hz⟩ : ∃ z, runB s 48 (s.size - q) (q + 1) = z := ⟨_, rfl⟩
          obtain ⟨y, hy⟩ : ∃ y, runB s 35 (s.size - q) (q + 1 + z) = y := ⟨_, rfl⟩
          have hzl := runB_le s 48 (s.size - q) (q + 1) (by omega)
          have hyl := runB_le s 35 (s.size - q) (q + 1 + z) (by omega)
          rw [hz] at hzl
          rw [hy] at hyl
          have HD := Lib.hid (HPT2.out z hz y hy)
          have HZ := Lib.hid hz
          have HY := Lib.hid hy
          clear hz hy HPT2
          go_wp2_with fail
          refine (takeY _ g s q e ea 46 46 rfl HR1.out (by omega) H46.out).mono ?_
          rintro x w3 ⟨rfl, hR3, k3⟩
          have HR3 := Lib.hid hR3
          have HP3 : Hid (Pat w3 h vp vs vn np ns mi 0 0 g1 g2) := Blk.keep HP1.out k3 (by simpa using hgh.symm)
          have HK3 := Lib.hid (HK1.out.trans k3 (fun x hx => .inl (by simp at hx; simp [hx])))
          clear hR3 k3
          go_upto_block 3 with fail
          go_cut [133] (fun _ wy => Rd wy g s (q + 1 + z) e ea ∧ Pat wy h vp vs vn np ns mi z 0 g1 g2 ∧ Keep [g, h] w wy)
          case first =>
            go_wp2_with fail
            go_loopg [133] (s.size - q) (fun fu _ wy => ∃ a : Nat, Rd wy g s (q + 1 + a) e ea ∧ Pat wy h vp vs vn np ns mi a 0 g1 g2 ∧ Keep [g, h] w wy ∧ a + runB s 48 fu (q + 1 + a) = z ∧ s.size ≤ q + 1 + a + fu)
            case atStart => exact ⟨0, HR3.out, HP3.out, HK3.out, by rw [Nat.zero_add]; exact HZ.out, by omega⟩
            case round =>
              obtain ⟨a, hR, hP, hK, ha, hfu⟩ := hrel
              have HRa := Lib.hid hR
              have HPa := Lib.hid hP
              have HKa := Lib.hid hK
              have HA := Lib.hid ha
              have hal : a ≤ z := by omega
              clear hR hP hK ha
              by_cases hb : isB s (q + 1 + a) 48
              · have hb1 := hb.1
                obtain ⟨fu, rfl⟩ : ∃ f, gk = f + 1 := ⟨gk - 1, by omega⟩
                have HA2 : Hid (a + 1 + runB s 48 fu (q + 1 + (a + 1)) = z) := by
                  have := HA.out
                  rw [runB_yes hb] at this
                  unfold Hid
                  rw [show q + 1 + (a + 1) = q + 1 + a + 1 from by omega]
                  omega
                have HB := Lib.hid hb
                clear hb
                go_wp2_with fail
                refine (takeY _ g s (q + 1 + a) e ea 48 48 rfl HRa.out (by omega) HB.out).mono ?_
                rintro x w4 ⟨rfl, hR4, k4⟩
                have HR4 := Lib.hid hR4
                have hP4 : Pat w4 h vp vs vn np ns mi a 0 g1 g2 := Blk.keep HPa.out k4 (by simpa using hgh.symm)
                have HK4 := Lib.hid (HKa.out.trans k4 (fun x hx => .inl (by simp at hx; simp [hx])))
                obtain ⟨m5, m6, m7, m8, m9, mf⟩ := hP4.cells
                have HP4 := Lib.hid hP4
                clear hR4 k4 hP4
                go_wp2
                go_roundg fu
                case measure => omega
                case rel => exact ⟨a + 1, Blk.far HR4.out hgh _, HP4.out.set6 _ _ (by omega), HK4.out.setCell (.inl (by simp)) _, HA2.out, by omega⟩
              · have HA2 : Hid (a = z) := by have := HA.out; rw [runB_no hb] at this; exact this
                have HT := Lib.hid (takeN wr g s (q + 1 + a) e ea 48 48 rfl HRa.out (by omega) hb)
                clear hb
                go_wp2_with fail
                refine HT.out.mono ?_
                rintro x w4 ⟨rfl, hR4, k4⟩
                have HR4 := Lib.hid hR4
                have HP4 : Hid (Pat w4 h vp vs vn np ns mi a 0 g1 g2) := Blk.keep HPa.out k4 (by simp)
                have HK4 := Lib.hid (HKa.out.nil k4)
                clear hR4 k4 HT
                go_wp2_with fail
                go_meet
                rw [← HA2.out]
                exact ⟨HR4.out, HP4.out, HK4.out⟩
          case rest =>
            obtain ⟨hR, hP, hK⟩ := hcut
            obtain ⟨m5, m6, m7, m8, m9, mf⟩ := hP.cells
            have HR4 := Lib.hid hR
            have HP4 := Lib.hid hP
            have HK4 := Lib.hid hK
            clear hR hP hK HR3 HP3 HK3
            have HK5 := Lib.hid (HK4.out.setCell (p := ⟨h, 7, none⟩) (.inl (by simp)) (.int .i64 (z : Int)))
            have HR5 : Hid (Rd (wc.setCell ⟨h, 7, none⟩ (.int .i64 (z : Int))) g s (q + 1 + z) e ea) := Blk.far HR4.out hgh _
            have HP5 := Lib.hid (HP4.out.set7 (z : Int) (z : Int) rfl)
            go_upto_block 5 with fail
            go_cut [149] (fun _ wy => Rd wy g s (q + 1 + z + y) e ea ∧ Pat wy h vp vs vn np ns mi z (z + y : Nat) g1 g2 ∧ Keep [g, h] w wy)
            case first =>
              go_wp2_with fail
              go_loopg [149] (s.size - q) (fun fu _ wy => ∃ a : Nat, Rd wy g s (q + 1 + z + a) e ea ∧ Pat wy h vp vs vn np ns mi z (z + a : Nat) g1 g2 ∧ Keep [g, h] w wy ∧ a + runB s 35 fu (q + 1 + z + a) = y ∧ s.size ≤ q + 1 + z + a + fu)
              case atStart => exact ⟨0, HR5.out, HP5.out, HK5.out, by rw [Nat.zero_add]; exact HY.out, by omega⟩
              case round =>
                obtain ⟨a, hR, hP, hK, ha, hfu⟩ := hrel
                have HRa := Lib.hid hR
                have HPa := Lib.hid hP
                have HKa := Lib.hid hK
                have HA := Lib.hid ha
                have hal : a ≤ y := by omega
                clear hR hP hK ha m5 m6 m7 m8 m9 mf
                by_cases hb : isB s (q + 1 + z + a) 35
                · have hb1 := hb.1
                  obtain ⟨fu, rfl⟩ : ∃ f, gk = f + 1 := ⟨gk - 1, by omega⟩
                  have HA2 : Hid (a + 1 + runB s 35 fu (q + 1 + z + (a + 1)) = y) := by
                    have := HA.out
                    rw [runB_yes hb] at this
                    unfold Hid
                    rw [show q + 1 + z + (a + 1) = q + 1 + z + a + 1 from by omega]
                    omega
                  have HB := Lib.hid hb
                  clear hb
                  go_wp2_with fail
                  refine (takeY _ g s (q + 1 + z + a) e ea 35 35 rfl HRa.out (by omega) HB.out).mono ?_
                  rintro x w4 ⟨rfl, hR4, k4⟩
                  have HR6 := Lib.hid hR4
                  have hP4 : Pat w4 h vp vs vn np ns mi z (z + a : Nat) g1 g2 := Blk.keep HPa.out k4 (by simpa using hgh.symm)
                  have HK6 := Lib.hid (HKa.out.trans k4 (fun x hx => .inl (by simp at hx; simp [hx])))
                  obtain ⟨m5, m6, m7, m8, m9, mf⟩ := hP4.cells
                  have HP6 := Lib.hid hP4
                  clear hR4 k4 hP4
                  go_wp2
                  go_roundg fu
                  case measure => omega
                  case rel => exact ⟨a + 1, Blk.far HR6.out hgh _, HP6.out.set7 _ _ (by omega), HK6.out.setCell (.inl (by simp)) _, HA2.out, by omega⟩
                · have HA2 : Hid (a = y) := by have := HA.out; rw [runB_no hb] at this; exact this
                  have HT := Lib.hid (takeN wr g s (q + 1 + z + a) e ea 35 35 rfl HRa.out (by omega) hb)
                  clear hb
                  go_wp2_with fail
                  refine HT.out.mono ?_
                  rintro x w4 ⟨rfl, hR4, k4⟩
                  have HR6 := Lib.hid hR4
                  have HP6 : Hid (Pat w4 h vp vs vn np ns mi z (z + a : Nat) g1 g2) := Blk.keep HPa.out k4 (by simp)
                  have HK6 := Lib.hid (HKa.out.nil k4)
                  clear hR4 k4 HT
                  go_wp2_with fail
                  go_meet
                  rw [← HA2.out]
                  exact ⟨HR6.out, HP6.out, HK6.out⟩
            case rest =>
              obtain ⟨hR, hP, hK⟩ := hcut
              clear m5 m6 m7 m8 m9 mf HK5 HR5 HP5 HR4 HP4 HK4
              obtain ⟨c0, c1, c2, c3, f1, f2, f3⟩ := hR.cells
              obtain ⟨m5, m6, m7, m8, m9, mf⟩ := hP.cells
              have HR6 := Lib.hid hR
              have HP6 := Lib.hid hP
              have HK6 := Lib.hid hK
              clear hR hP hK
              have HKf : ∀ w', Keep [g] _ w' → Keep [g, h] w w' := fun w' k => HK6.out.trans k (fun x hx => .inl (by simp at hx; simp [hx]))
              have HKf := Lib.hid HKf
              by_cases h0 : z + y = 0
              · have HD2 : Hid (digitsS s p = .error (260, q + 1)) := by have := HD.out; rw [if_pos h0] at this; exact this
                have hzy : (z : Int) + y = 0 := by omega
                have hz0 : z = 0 := by omega
                have hy0 : y = 0 := by omega
                subst hz0
                subst hy0
                clear h0 hzy HD
                go_wp2_with (go_at_call 116; refine (fail_any _ g s _ e ea _ _ HR6.out).mono ?_; rintro x w5 ⟨rfl, h5, k5⟩)
                go_ret
                rw [HD2.out]
                exact ⟨rfl, ⟨_, h5⟩, HKf.out _ k5⟩
              · have h0' : ((z : Int) + y == 0) = false := by simp; omega
                by_cases h64 : 64 < k ∨ 64 < z + y
                · have HD2 : Hid (digitsS s p = .error (3, p)) := by have := HD.out; rw [if_neg h0, if_pos h64] at this; exact this
                  have hor : (64 : Int) < k ∨ (¬ (64 : Int) < k ∧ (64 : Int) < (z : Int) + y) := by omega
                  clear h0 h64 HD
                  rcases hor with h1 | ⟨h1, h2⟩
                  all_goals
                    go_wp2_with (go_at_call 116; refine (fail_any _ g s _ e ea _ _ HR6.out).mono ?_; rintro x w5 ⟨rfl, h5, k5⟩)
                    go_ret
                    rw [HD2.out]
                    exact ⟨rfl, ⟨_, h5⟩, HKf.out _ k5⟩
                · have HD2 : Hid (digitsS s p = .ok ⟨mi, z, z + y, g1, g2, q + 1 + z + y⟩) := by have := HD.out; rw [if_neg h0, if_neg h64] at this; exact this
                  have h1 : ¬ (64 : Int) < k := by omega
                  have h2 : ¬ (64 : Int) < (z : Int) + y := by omega
                  clear h0 h64 HD
                  go_wp2
                  go_ret
                  rw [HD2.out]
                  exact ⟨rfl, HR6.out, HP6.out, HK6.out⟩
        · have HD := Lib.hid (HN.out h46)
          have HT := Lib.hid (takeN wc g s q e ea 46 46 rfl HR1.out (by omega) h46)
          clear h46 HPT HN
          go_wp2_with fail
          refine HT.out.mono ?_
          rintro x w3 ⟨rfl, hR3, k3⟩
          have HR3 := Lib.hid hR3
          have hP3 : Pat w3 h vp vs vn np ns mi 0 0 g1 g2 := Blk.keep HP1.out k3 (by simp)
          have HK3 := Lib.hid (HK1.out.nil k3)
          obtain ⟨m5, m6, m7, m8, m9, mf⟩ := hP3.cells
          have HP3 := Lib.hid hP3
          clear hR3 k3 HT hP3
          by_cases h64 : 64 < k
          · have HD2 : Hid (digitsS s p = .error (3, p)) := by have := HD.out; rw [if_pos h64] at this; exact this
            have h1 : (64 : Int) < k := by omega
            go_wp2_with (go_at_call 116; refine (fail_any _ g s _ e ea _ _ HR3.out).mono ?_; rintro x w5 ⟨rfl, h5, k5⟩)
            go_ret
            rw [HD2.out]
            exact ⟨rfl, ⟨_, h5⟩, HK3.out.trans k5 (fun x hx => .inl (by simp at hx; simp [hx]))⟩
          · have HD2 : Hid (digitsS s p = .ok ⟨mi, 0, 0, g1, g2, q⟩) := by have := HD.out; rw [if_neg h64] at this; exact this
            have h1 : ¬ (64 : Int) < k := by omega
            go_wp2
            go_ret
            rw [HD2.out]
            exact ⟨rfl, HR3.out, HP3.out, HK3.out⟩
end Go.Proofs.YtkkglaglnfebjaaDoor
