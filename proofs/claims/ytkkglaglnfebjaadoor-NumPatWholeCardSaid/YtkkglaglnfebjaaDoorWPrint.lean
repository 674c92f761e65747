/- Walks: numpat's Print, the pieces' texts being known. -/
import Derived.Test.YtkkglaglnfebjaaDoorWPCheck
import Derived.Test.YtkkglaglnfebjaaDoorWPut
import Derived.Test.YtkkglaglnfebjaaDoorPP
import Derived.Test.YtkkglaglnfebjaaDoorWParse
import Derived.Deep.RegionWith
import Derived.Deep.RegionHeld3
namespace Go.Proofs.YtkkglaglnfebjaaDoor
open Go.RowKit Go.IntWalk

theorem RdA.blk {w : World} {v : Value} {l : List Aff} (h : RdA w v l) : ∀ b o n c, l ≠ [] → v = .slice (some ⟨b, o, none⟩) n c → b < w.heap.size := by
  intro b o n c hl hv
  obtain ⟨A, cap, rfl, _, _, h3⟩ := h
  obtain ⟨b', o', rfl, hlt, _⟩ := h3 hl
  simp at hv
  omega
/-- The pattern p stands in block h. -/
def PatAt (w : World) (h : Nat) (v1 v2 v3 v4 : Value) (p : PatD) : Prop := Pat w h v1 v2 (.bool p.neg) v3 v4 p.mi p.mf p.xf p.g p.g2
section
variable {w w' : World} {h B : Nat} {v1 v2 v3 v4 : Value} {p : PatD} {bs : List Nat}
theorem PatAt.keep (H : PatAt w h v1 v2 v3 v4 p) (hk : Keep bs w w') (hh : h ∉ bs) : PatAt w' h v1 v2 v3 v4 p := Blk.keep H hk hh
theorem PatAt.below (H : PatAt w h v1 v2 v3 v4 p) (hk : Below B w w') (hh : h < B) : PatAt w' h v1 v2 v3 v4 p := Blk.below H hk hh
theorem PatAt.alloc (H : PatAt w h v1 v2 v3 v4 p) (o : Obj) : PatAt (w.alloc o) h v1 v2 v3 v4 p := Blk.alloc H o
theorem PatAt.drewN (H : PatAt w h v1 v2 v3 v4 p) (n : Nat) : PatAt (w.drewN n) h v1 v2 v3 v4 p := H
theorem PatAt.all (H : PatAt w h v1 v2 v3 v4 p) :
    w.cell? ⟨h, 0, none⟩ = some v1 ∧ w.cell? ⟨h, 1, none⟩ = some v2 ∧ w.cell? ⟨h, 2, none⟩ = some (.bool p.neg) ∧ w.cell? ⟨h, 3, none⟩ = some v3 ∧ w.cell? ⟨h, 4, none⟩ = some v4 ∧
    w.cell? ⟨h, 5, none⟩ = some (.int .i64 p.mi) ∧ w.cell? ⟨h, 6, none⟩ = some (.int .i64 p.mf) ∧ w.cell? ⟨h, 7, none⟩ = some (.int .i64 p.xf) ∧ w.cell? ⟨h, 8, none⟩ = some (.int .i64 p.g) ∧ w.cell? ⟨h, 9, none⟩ = some (.int .i64 p.g2) ∧ (∀ i, w.frozen? ⟨h, i, none⟩ = false) ∧ h < w.heap.size :=
  ⟨Blk.cell_eq H rfl, Blk.cell_eq H rfl, Blk.cell_eq H rfl, Blk.cell_eq H rfl, Blk.cell_eq H rfl, Blk.cell_eq H rfl, Blk.cell_eq H rfl, Blk.cell_eq H rfl, Blk.cell_eq H rfl, Blk.cell_eq H rfl, Blk.frozen H, Blk.lt H⟩
end
/-- The block of a pattern that is boxed. -/
def boxP (v1 v2 v3 v4 : Value) (p : PatD) : Obj := .cells #[v1, v2, .bool p.neg, v3, v4, .int .i64 p.mi, .int .i64 p.mf, .int .i64 p.xf, .int .i64 p.g, .int .i64 p.g2] 25
theorem PatAt.new (w : World) (v1 v2 v3 v4 : Value) (p : PatD) : PatAt (w.alloc (boxP v1 v2 v3 v4 p)) w.heap.size v1 v2 v3 v4 p := Blk.new _ _ _

theorem OwnI.form1 {w : World} {B : Nat} {v : Value} {l : List Int} (h : OwnI w B v l) (hl : l ≠ []) : ∃ g cap, v = .slice (some ⟨g, 0, none⟩) l.length cap ∧ B ≤ g ∧ g < w.heap.size ∧ l.length ≤ cap ∧ cap ≤ maxLen ∧ ∀ i x, l[i]? = some x → w.cell? ⟨g, i, none⟩ = some (.int .i64 x) := by
  have h' := h
  rcases h.2 with ⟨rfl, h0⟩ | ⟨g, cap, cur, rfl, hB, hg, hn, hc, _⟩
  · exact absurd (List.eq_nil_of_length_eq_zero h0) hl
  · exact ⟨_, _, rfl, hB, (Array.getElem?_eq_some_iff.1 hg).1, hn, hc, fun i x hx => by
      have hi := (List.getElem?_eq_some_iff.1 hx).1
      rw [World.ownsRow.cellAt h' i (by omega), List.getElem?_map, hx]; rfl⟩
/-- slices.Contains over a slice of the call's own. -/
theorem contains_own {w : World} {B : Nat} {v : Value} {l : List Int} (h : OwnI w B v l) (hl : l.length ≤ 100) (x : Int) :
    Calls Tryd.prog 45 #[v, .int .i64 x] w fun e w' => e = .returned (.bool (l.contains x)) ∧ w = w' := by
  by_cases h0 : l = []
  · subst h0
    obtain ⟨A, cap, rfl, _⟩ := h.form
    exact (Tryd.slices_Contains_int_empty A cap x w).mono fun e w' ⟨h1, h2⟩ => ⟨by rw [h1]; rfl, h2.symm⟩
  · obtain ⟨g, cap, rfl, _, _, _, _, hc⟩ := h.form1 h0
    refine (Tryd.slices_Contains_int g 0 l.length cap l x w (Nat.le_refl _) (by omega) (fun j hj => ?_)).mono fun e w' ⟨h1, h2⟩ => ⟨by rw [h1, List.take_length], h2.symm⟩
    rw [Nat.zero_add]
    refine hc j _ ?_
    rw [List.getD_eq_getElem?_getD, List.getElem?_eq_getElem hj]
    rfl
theorem rep_one (x : UInt8) (c : Int) (h0 : 0 ≤ c) (h1 : c ≤ 1000) (W : World) :
    Calls Tryd.prog 48 #[.string ⟨#[x]⟩, .int .i64 c] W fun e w' => e = .returned (.string ⟨(List.replicate c.toNat x).toArray⟩) ∧ Below W.heap.size W w' := by
  obtain ⟨n, rfl⟩ := Int.eq_ofNat_of_zero_le h0
  have h := Tryd.strings_Repeat ⟨#[x]⟩ n W (by omega) (by show 1 * n ≤ _; omega)
  have e1 := Lib.repeatL_replicate x 1 n
  simp only [Nat.mul_one] at e1
  rw [show (⟨#[x]⟩ : ByteArray).data.toList = List.replicate 1 x from rfl, e1] at h
  exact h
/-- Where Print stands: the pattern boxed, the builder in block bb. -/
structure PW (w : World) (bb : Nat) (v1 v2 v3 v4 : Value) (p : PatD) (acc : List UInt8) (wx : World) : Prop where
  pat : PatAt wx w.heap.size v1 v2 v3 v4 p
  bld : Bld bb acc wx
  kp : Keep [] w wx
  lt : w.heap.size < bb
section
variable {w wx w' : World} {bb : Nat} {v1 v2 v3 v4 : Value} {p : PatD} {acc acc' : List UInt8} {v : Value} {l : List Int}
theorem PW.step (h : PW w bb v1 v2 v3 v4 p acc wx) (hB : Bld bb acc' w') (hb : Below bb wx w') : PW w bb v1 v2 v3 v4 p acc' w' :=
  ⟨h.pat.below hb h.lt, hB, h.kp.below_ge hb (Nat.le_of_lt h.lt), h.lt⟩
theorem PW.new_ (h : PW w bb v1 v2 v3 v4 p acc wx) (hb : Below wx.heap.size wx w') : PW w bb v1 v2 v3 v4 p acc w' :=
  ⟨h.pat.below hb (Blk.lt h.pat), h.bld.below_new hb, h.kp.nil (Keep.of_below hb), h.lt⟩
theorem PW.drewN (h : PW w bb v1 v2 v3 v4 p acc wx) (n : Nat) : PW w bb v1 v2 v3 v4 p acc (wx.drewN n) :=
  ⟨h.pat.drewN n, h.bld.drewN n, h.kp.drewN n, h.lt⟩
theorem PW.drew (h : PW w bb v1 v2 v3 v4 p acc wx) : PW w bb v1 v2 v3 v4 p acc wx.drew := h.drewN 1
theorem PW.ints (h : PW w bb v1 v2 v3 v4 p acc wx) (ho : OwnI wx (bb + 1) v l) (hk : Keep v.ownBlock.toList wx w') : PW w bb v1 v2 v3 v4 p acc w' := by
  have hl := h.lt
  have hge : ∀ x ∈ v.ownBlock.toList, bb + 1 ≤ x := ho.lt
  refine ⟨h.pat.keep hk (fun hc => by have := hge _ hc; omega), h.bld.keep hk (fun hc => by have := hge _ hc; omega) ?_, h.kp.trans hk (fun x hx => .inr (by have := hge _ hx; omega)), hl⟩
  intro x hx c fz hc
  rcases ho.2 with ⟨rfl, _⟩ | ⟨g, cap, cur, rfl, _, hg, _⟩
  · simp [Value.ownBlock] at hx
  · simp [Value.ownBlock] at hx
    subst hx
    rw [hg] at hc
    injection hc with hc
    injection hc with _ hc
    exact absurd hc (by decide)
theorem frac_write (h : PW w bb v1 v2 v3 v4 p acc wx) (hx : 0 < p.xf) (hm : p.xf ≤ 64) (hm2 : 0 ≤ p.mf ∧ p.mf ≤ p.xf) (hal : acc.length ≤ 100000000000) :
    Calls Tryd.prog 47 #[.pointer (some ⟨bb, 0, none⟩), .string ((⟨#[46]⟩ : ByteArray) ++ ⟨Array.replicate p.mf.toNat 48⟩ ++ ⟨Array.replicate (p.xf - p.mf).toNat 35⟩)] wx
      fun e w' => e = .returned (.tuple #[.int .i64 ((⟨#[46]⟩ : ByteArray) ++ ⟨Array.replicate p.mf.toNat 48⟩ ++ ⟨Array.replicate (p.xf - p.mf).toNat 35⟩ : ByteArray).size, .nilIface]) ∧ PW w bb v1 v2 v3 v4 p (acc ++ fracL p.mf p.xf) w' := by
  have e1 : ((⟨#[46]⟩ : ByteArray) ++ ⟨Array.replicate p.mf.toNat 48⟩ ++ ⟨Array.replicate (p.xf - p.mf).toNat 35⟩).data.toList = fracL p.mf p.xf := by
    simp [fracL, hx]
  have e2 : ((⟨#[46]⟩ : ByteArray) ++ ⟨Array.replicate p.mf.toNat 48⟩ ++ ⟨Array.replicate (p.xf - p.mf).toNat 35⟩).size ≤ 200 := by
    rw [ByteArray.size_append, ByteArray.size_append]
    simp [ByteArray.size]
    omega
  refine (bld_string _ h.bld (by omega)).mono fun e w' ⟨h1, h2, h3, _⟩ => ⟨h1, h.step (by rw [← e1]; exact h2) h3⟩
theorem OwnI.nil (w : World) (B : Nat) : OwnI w B (.slice none 0 0) [] := World.ownsRow_nil w B _ 1
theorem OwnI.others {B : Nat} {b : Nat} (h : OwnI w B v l) (ho : Lib.OthersKept 5 (some b) w w') (hb : b < B) : OwnI w' B v l := by
  refine ⟨h.1, ?_⟩
  rcases h.2 with hn | ⟨g, cap, cur, rfl, hB, hg, rest⟩
  · exact .inl hn
  · refine .inr ⟨g, cap, cur, rfl, hB, ho g _ hg (by simp; omega) ?_, rest⟩
    intro c fz hc
    injection hc with _ hc
    exact absurd hc (by decide)
end
set_option maxRecDepth 100000 in
set_option maxHeartbeats 1000000 in
theorem print_any (w : World) (v1 v2 v3 v4 : Value) (p : PatD) (b1 b2 b3 b4 : List UInt8) (hp : RdP w v1 v2 v3 v4 p) (hsz : PatSz p) (h1 : PutOK p.pre b1) (h2 : PutOK p.suf b2) (h3 : PutOK p.npre b3) (h4 : PutOK p.nsuf b4)
    (hl : b1.length ≤ 1000000000 ∧ b2.length ≤ 1000000000 ∧ b3.length ≤ 1000000000 ∧ b4.length ≤ 1000000000) :
    Calls Tryd.prog 17 #[patV v1 v2 v3 v4 p] w fun e w' => e = .returned (.tuple #[.string ⟨(printR p b1 b2 b3 b4).1.toArray⟩, .int .i64 (printR p b1 b2 b3 b4).2]) ∧ Keep [] w w' := by
  have HP := Lib.hid hp
  have HSz := Lib.hid hsz
  have H1 := Lib.hid h1
  have H2 := Lib.hid h2
  have H3 := Lib.hid h3
  have H4 := Lib.hid h4
  have hC : ∀ W, Keep [] w W → Hid (Calls Tryd.prog 20 #[patV v1 v2 v3 v4 p] W fun e w' => e = .returned (.int .i64 (errB (rightB p))) ∧ Keep [] W w') := fun W hk => pcheck_any W v1 v2 v3 v4 p (hp.keep_nil hk) hsz
  clear hsz hp h1 h2 h3 h4
  simp only [patV] at *
  cases hr : rightB p
  · have HR : Hid (printR p b1 b2 b3 b4 = ([], 2)) := by unfold Hid printR; rw [if_pos hr]
    have HC := Lib.hid (hC (w.alloc (.cells #[v1, v2, .bool p.neg, v3, v4, .int .i64 p.mi, .int .i64 p.mf, .int .i64 p.xf, .int .i64 p.g, .int .i64 p.g2] 25)) ((Keep.refl _ _).alloc _)).out
    rw [hr] at HC
    change Hid (Calls _ _ _ _ fun e w' => e = .returned (.int .i64 2) ∧ Keep [] _ w') at HC
    clear hC hr
    go_enter Tryd.func17, Tryd.ntmps17
    go_wp2_with (go_at_call 20; refine HC.out.mono ?_; rintro e w' ⟨rfl, hk⟩)
    go_ret2
    rw [HR.out]
    exact ⟨rfl, ((Keep.refl _ _).alloc _).nil hk⟩
  · have HR : Hid (printR p b1 b2 b3 b4 = if 4096 < (printL p b1 b2 b3 b4).length then ([], 3) else (printL p b1 b2 b3 b4, 0)) := by unfold Hid printR; rw [if_neg (by simp [hr])]
    have HC := Lib.hid (hC (w.alloc (.cells #[v1, v2, .bool p.neg, v3, v4, .int .i64 p.mi, .int .i64 p.mf, .int .i64 p.xf, .int .i64 p.g, .int .i64 p.g2] 25)) ((Keep.refl _ _).alloc _)).out
    rw [hr] at HC
    change Hid (Calls _ _ _ _ fun e w' => e = .returned (.int .i64 0) ∧ Keep [] _ w') at HC
    obtain ⟨⟨n1, n2, n3, n4, n5, n6⟩, ng⟩ := right_nums p hr
    clear hC hr
    have HP0 := Lib.hid (PatAt.new w v1 v2 v3 v4 p)
    unfold boxP at HP0
    go_enter Tryd.func17, Tryd.ntmps17
    go_wp2_with fail
    refine HC.out.mono ?_
    rintro e w2 ⟨rfl, hk⟩
    have hp2 := HP0.out.keep hk (by simp)
    have HP2 := Lib.hid hp2
    have HK2 := Lib.hid (((Keep.refl [] w).alloc _).nil hk)
    obtain ⟨p0, p1, p2, p3, p4, p5, p6, p7, p8, p9, pf, pz⟩ := hp2.all
    clear hk hp2 HC HP0
    go_wp2_with fail
    obtain ⟨bb, hbb⟩ : ∃ bb, w2.heap.size = bb := ⟨_, rfl⟩
    rw [hbb] at pz
    rw [hbb]
    have HW2 : Hid (PW w bb v1 v2 v3 v4 p [] (w2.alloc (.cells #[.pointer none, .slice none 0 0] 86))) := ⟨HP2.out.alloc _, Bld.new' w2 bb hbb, HK2.out.alloc _, pz⟩
    have HV : Hid (RdP (w2.alloc (.cells #[.pointer none, .slice none 0 0] 86)) v1 v2 v3 v4 p) := HP.out.keep_nil HW2.out.kp
    have hblk : ∀ (v : Value) l, RdA w v l → Hid (∀ b' o n c, l ≠ [] → v = .slice (some ⟨b', o, none⟩) n c → b' < bb) := fun v l hv b' o n c h1 h2 => Nat.lt_trans (hv.blk b' o n c h1 h2) pz
    clear hbb HP2 HK2 p0 p1 p2 p3 p4 p5 p6 p7 p8 p9 pf
    refine (H1.out bb [] _ v1 HW2.out.bld HV.out.pre (hblk _ _ HP.out.pre).out (by simp)).mono ?_
    rintro e w3 ⟨rfl, hB3, hb3, ho3⟩
    have hW3 := HW2.out.step hB3 hb3
    have HW3 := Lib.hid hW3
    obtain ⟨p0, p1, p2, p3, p4, p5, p6, p7, p8, p9, pf, pz3⟩ := hW3.pat.all
    have hb3l := hW3.bld.lt
    have hbb1 : bb + 1 ≤ w3.heap.size := hb3l
    clear HW2 HV hW3 hB3 hb3 ho3 H1
    have hcon : ∀ W v cs, OwnI W (bb + 1) v cs → cs.length ≤ 100 → ∀ x, Hid (Calls Tryd.prog 45 #[v, .int .i64 x] W fun e w' => e = .returned (.bool (cs.contains x)) ∧ W = w') := fun W v cs h hl x => contains_own h hl x
    have HNG := Lib.hid ng
    clear ng
    go_upto_if 19 with fail
    go_cut [6] (fun s6 wx => OwnI wx (bb + 1) s6 (comma1 p.g) ∧ PW w bb v1 v2 v3 v4 p b1 wx)
    case first =>
      by_cases g1 : 0 < p.g
      · have HG : Hid (comma1 p.g = [p.g]) := by unfold Hid comma1; rw [if_pos g1]
        go_wp2_with (at_builtin; refine wpList_append_int rfl _ _ rfl rfl (OwnI.nil w3 (bb + 1)) _ rfl p.g rfl (Nat.zero_le _) hbb1 ?_; intro v' w4 ho4 hk4; have HO := Lib.hid ho4; have HW := Lib.hid (HW3.out.ints (OwnI.nil w3 (bb + 1)) hk4); clear ho4 hk4)
        go_meet
        exact ⟨HG.out ▸ HO.out, HW.out⟩
      · have HG : Hid (comma1 p.g = []) := by unfold Hid comma1; rw [if_neg g1]
        go_wp2
        go_meet
        exact ⟨HG.out ▸ OwnI.nil _ _, HW3.out⟩
    case rest =>
      obtain ⟨hO, hW⟩ := hcut
      have HO := Lib.hid hO
      have HW := Lib.hid hW
      obtain ⟨A, cap, rfl, hff⟩ := hO.form
      clear hff p0 p1 p2 p3 p4 p5 p6 p7 p8 p9 pf
      obtain ⟨p0, p1, p2, p3, p4, p5, p6, p7, p8, p9, pf, pz4⟩ := hW.pat.all
      have hbb2 : bb + 1 ≤ wc.heap.size := hW.bld.lt
      clear hO hW HW3
      go_upto_if 29 with fail
      go_cut [6] (fun s6 wx => OwnI wx (bb + 1) s6 (commasL p.g p.g2) ∧ PW w bb v1 v2 v3 v4 p b1 wx)
      case first =>
        cases g2 : p.g2 != p.g
        · have HG : Hid (commasL p.g p.g2 = comma1 p.g) := by unfold Hid commasL; rw [if_neg (by simpa using g2)]; simp
          go_wp2
          go_meet
          exact ⟨HG.out ▸ HO.out, HW.out⟩
        · have HG : Hid (commasL p.g p.g2 = comma1 p.g ++ [p.g + p.g2]) := by unfold Hid commasL; rw [if_pos (by simpa using g2)]
          have g3 : p.g2 ≠ p.g := by simpa using g2
          have g4 : 1 ≤ p.g ∧ p.g ≤ 63 ∧ 1 ≤ p.g2 ∧ p.g2 ≤ 63 := by have := HNG.out; omega
          obtain ⟨g5, g6, g7, g8⟩ := g4
          have hl1 := comma1_len p.g
          have hl2 : (comma1 p.g).length ≤ 1000000000000 := by omega
          clear g3 hl1
          go_wp2_with (at_builtin; refine wpList_append_int rfl _ _ rfl rfl HO.out _ rfl (p.g + p.g2) rfl hl2 hbb2 ?_; intro v' w4 ho4 hk4; have HO4 := Lib.hid ho4; have HW4 := Lib.hid (HW.out.ints HO.out hk4); clear ho4 hk4)
          go_meet
          exact ⟨HG.out ▸ HO4.out, HW4.out⟩
      case rest =>
        clear HO HW p0 p1 p2 p3 p4 p5 p6 p7 p8 p9 pf pz4 hbb2
        obtain ⟨hO, hW⟩ := hcut
        have HO := Lib.hid hO
        have HW := Lib.hid hW
        obtain ⟨A2, cap2, rfl, hff⟩ := hO.form
        clear hff
        obtain ⟨p0, p1, p2, p3, p4, p5, p6, p7, p8, p9, pf, pz4⟩ := hW.pat.all
        have hcl := commasL_len p.g p.g2
        have hcs3 := commas_ways p.g p.g2 HNG.out
        clear hO hW
        have HSH : Hid (shapeL p = digitsF (commasL p.g p.g2) p.mi (digitsM p.mi (commasL p.g p.g2)).toNat ++ fracL p.mf p.xf) := rfl
        generalize commasL p.g p.g2 = cs at *
        have HC3 := Lib.hid hcs3
        clear hcs3
        go_upto_if 43 with fail
        go_cut [7] (fun s7 wx => s7 = .int .i64 (digitsM p.mi cs) ∧ wc = wx)
        case first =>
          rcases HC3.out with rfl | ⟨rfl, g1, g2⟩ | ⟨rfl, g1, g2⟩
          · go_wp2
            go_meet
            exact ⟨rfl, rfl⟩
          · obtain ⟨gc, cap', heq, _, hgl, _, _, hcc⟩ := HO.out.form1 (by simp)
            injection heq with e1 e2 e3
            subst e1 e3
            have q0 := hcc 0 p.g rfl
            clear hcc e2
            go_wp2
            · go_meet
              exact ⟨rfl, rfl⟩
            · exact absurd (show 0 < [p.g].length by simp) (by assumption)
          · obtain ⟨gc, cap', heq, _, hgl, _, _, hcc⟩ := HO.out.form1 (by simp)
            injection heq with e1 e2 e3
            subst e1 e3
            have q0 := hcc 1 (p.g + p.g2) rfl
            clear hcc e2
            go_wp2
            · go_meet
              exact ⟨rfl, rfl⟩
            · exact absurd (show 0 < [p.g, p.g + p.g2].length by simp) (by assumption)
        case rest =>
          obtain ⟨rfl, rfl⟩ := hcut
          obtain ⟨N, hN, hN2⟩ : ∃ N : Nat, digitsM p.mi cs = N ∧ N ≤ 64 := by
            refine ⟨(digitsM p.mi cs).toNat, ?_, ?_⟩ <;> (rcases HC3.out with rfl | ⟨rfl, g1, g2⟩ | ⟨rfl, g1, g2⟩ <;> simp [digitsM] <;> omega)
          rw [hN] at HSH ⊢
          rw [Int.toNat_natCast] at HSH
          clear hN
          go_wp2
          go_loopg [7] N (fun k s7 wx => ∃ acc : List UInt8, k ≤ N ∧ s7 = .int .i64 k ∧ acc.length ≤ 1000000000 + 2 * (64 - k) ∧ OwnI wx (bb + 1) (.slice A2 cs.length cap2) cs ∧ PW w bb v1 v2 v3 v4 p acc wx ∧ acc ++ digitsF cs p.mi k = b1 ++ digitsF cs p.mi N)
          case atStart => exact ⟨b1, Nat.le_refl _, rfl, by omega, HO.out, HW.out, rfl⟩
          case round =>
            obtain ⟨acc, hk, rfl, hal, hO, hW, hd⟩ := hrel
            have HO2 := Lib.hid hO
            have HW2 := Lib.hid hW
            have HD := Lib.hid hd
            clear p0 p1 p2 p3 p4 p5 p6 p7 p8 p9 pf
            obtain ⟨p0, p1, p2, p3, p4, p5, p6, p7, p8, p9, pf, pz4⟩ := hW.pat.all
            clear hO hW hd HO HW
            cases gk with
            | zero =>
              have HD2 : Hid (acc = b1 ++ digitsF cs p.mi N) := by have := HD.out; unfold Hid; simpa [digitsF] using this
              clear HD hcon
              go_upto_if 68 with fail
              go_outline
              go_cut [] (fun wx => ∃ acc', acc' = acc ++ fracL p.mf p.xf ∧ PW w bb v1 v2 v3 v4 p acc' wx)
              case first =>
                by_cases hx : 0 < p.xf
                · have hR48 : ∀ W, Hid (Calls Tryd.prog 48 #[.string ⟨#[48]⟩, .int .i64 p.mf] W fun e w' => e = .returned (.string ⟨(List.replicate p.mf.toNat 48).toArray⟩) ∧ Below W.heap.size W w') := fun W => rep_one 48 p.mf (by omega) (by omega) W
                  have hR35 : ∀ W, Hid (Calls Tryd.prog 48 #[.string ⟨#[35]⟩, .int .i64 (p.xf - p.mf)] W fun e w' => e = .returned (.string ⟨(List.replicate (p.xf - p.mf).toNat 35).toArray⟩) ∧ Below W.heap.size W w') := fun W => rep_one 35 (p.xf - p.mf) (by omega) (by omega) W
                  have s1 : IntKind.i64.wrap (p.xf - p.mf) = p.xf - p.mf := IntWalk.i64_in _ (by omega)
                  have hA1 : ∀ W, (Op.stringOp .add ⟨#[46]⟩ ⟨Array.replicate p.mf.toNat 48⟩).run Tryd.prog W = .ok (.string ((⟨#[46]⟩ : ByteArray) ++ ⟨Array.replicate p.mf.toNat 48⟩)) W := fun W => run_string_add_sum W _ _ (by simp [ByteArray.size]; omega)
                  have hA2 : ∀ W, (Op.stringOp .add ((⟨#[46]⟩ : ByteArray) ++ ⟨Array.replicate p.mf.toNat 48⟩) ⟨Array.replicate (p.xf - p.mf).toNat 35⟩).run Tryd.prog W = .ok (.string ((⟨#[46]⟩ : ByteArray) ++ ⟨Array.replicate p.mf.toNat 48⟩ ++ ⟨Array.replicate (p.xf - p.mf).toNat 35⟩)) W := fun W => run_string_add_sum W _ _ (by rw [ByteArray.size_append]; simp [ByteArray.size]; omega)
                  go_upto_region 23 with fail
                  have HWD := Lib.hid HW2.out.drew
                  have hFW : ∀ W, PW w bb v1 v2 v3 v4 p acc W → Hid (Calls Tryd.prog 47 #[.pointer (some ⟨bb, 0, none⟩), .string ((⟨#[46]⟩ : ByteArray) ++ ⟨Array.replicate p.mf.toNat 48⟩ ++ ⟨Array.replicate (p.xf - p.mf).toNat 35⟩)] W
                    fun e w' => e = .returned (.tuple #[.int .i64 ((⟨#[46]⟩ : ByteArray) ++ ⟨Array.replicate p.mf.toNat 48⟩ ++ ⟨Array.replicate (p.xf - p.mf).toNat 35⟩ : ByteArray).size, .nilIface]) ∧ PW w bb v1 v2 v3 v4 p (acc ++ fracL p.mf p.xf) w') := fun W h => frac_write h hx n4 ⟨n5, n6⟩ (by omega)
                  go_region_held3 (fun w' => w'.cell? ⟨w.heap.size, 6, none⟩ = some (.int .i64 p.mf) ∧ w'.cell? ⟨w.heap.size, 7, none⟩ = some (.int .i64 p.xf)) (first | exact ⟨p6, p7⟩ | exact ⟨i6, i7⟩ | exact ⟨j6, j7⟩ | exact ⟨k6, k7⟩) (first | (go_at_call_of 48 (Value.string ⟨#[48]⟩); refine (hR48 _).out.mono ?_; rintro e w1 ⟨rfl, hb1⟩; have k6 := (hb1.cell (p := ⟨w.heap.size, 6, none⟩) pz4).trans p6; have k7 := (hb1.cell (p := ⟨w.heap.size, 7, none⟩) pz4).trans p7; have HW1 := Lib.hid (HWD.out.new_ hb1); clear hb1) | (go_at_call_of 48 (Value.string ⟨#[35]⟩); refine (hR35 _).out.mono ?_; rintro e w2 ⟨rfl, hb2⟩; have HW3 := Lib.hid (HW1.out.new_ hb2); obtain ⟨_, _, _, _, _, _, j6, j7, _, _, _, _⟩ := HW3.out.pat.all; clear hb2) | (go_at_call 47; refine (hFW _ HW3.out).out.mono ?_; rintro e w4 ⟨rfl, hW4⟩; have HW4 := Lib.hid hW4; obtain ⟨_, _, _, _, _, _, i6, i7, _, _, _, _⟩ := hW4.pat.all; clear hW4))
                  all_goals
                    go_wp2
                    go_meet
                    exact ⟨_, rfl, HW4.out⟩
                · have HG : Hid (fracL p.mf p.xf = []) := by unfold Hid fracL; rw [if_neg hx]
                  go_wp2
                  go_meet
                  exact ⟨acc, by rw [HG.out, List.append_nil], HW2.out⟩
              case rest =>
                obtain ⟨acc', hacc, hW⟩ := hcut
                have HAC : Hid (acc' = b1 ++ shapeL p) := by unfold Hid; rw [hacc, HD2.out, HSH.out, List.append_assoc]
                have hal' : acc'.length ≤ 2000000000 := by
                  rw [hacc, List.length_append]
                  have : (fracL p.mf p.xf).length ≤ 200 := by unfold fracL; split <;> simp <;> omega
                  omega
                have HW := Lib.hid hW
                have HV2 := Lib.hid (HP.out.keep_nil hW.kp)
                clear p0 p1 p2 p3 p4 p5 p6 p7 p8 p9 pf
                obtain ⟨p0, p1, p2, p3, p4, p5, p6, p7, p8, p9, pf, pz5⟩ := hW.pat.all
                clear hacc hW HD2 HSH
                go_wp2_with fail
                refine (H2.out bb acc' _ v2 HW.out.bld HV2.out.suf (hblk _ _ HP.out.suf).out (by omega)).mono ?_
                rintro e w6 ⟨rfl, hB6, hb6, ho6⟩
                have HW6 := Lib.hid (HW.out.step hB6 hb6)
                clear p0 p1 p2 p3 p4 p5 p6 p7 p8 p9 pf hB6 hb6 ho6
                obtain ⟨p0, p1, p2, p3, p4, p5, p6, p7, p8, p9, pf, pz6⟩ := HW6.out.pat.all
                obtain ⟨l1, l2, l3, l4⟩ := hl
                go_upto_if 85 with fail
                go_cut [0, 9, 85] (fun _ _ _ wx => ∃ acc, acc = printL p b1 b2 b3 b4 ∧ acc.length ≤ 10000000000 ∧ PW w bb v1 v2 v3 v4 p acc wx)
                case first =>
                  cases hneg : p.neg
                  · have HL : Hid (printL p b1 b2 b3 b4 = acc' ++ b2) := by unfold Hid; rw [HAC.out]; simp [printL, hneg]
                    go_wp2
                    go_meet
                    exact ⟨_, HL.out.symm, by rw [List.length_append]; omega, HW6.out⟩
                  · have HL : Hid (printL p b1 b2 b3 b4 = acc' ++ b2 ++ [59] ++ b3 ++ [48] ++ b4) := by unfold Hid; rw [HAC.out]; simp [printL, hneg]
                    have hL0 : (acc' ++ b2).length ≤ 3000000000 := by rw [List.length_append]; omega
                    generalize acc' ++ b2 = a0 at *
                    go_wp2_with fail
                    refine (bld_byte 59 (by omega) (by omega) HW6.out.bld (by omega)).mono ?_
                    rintro e w7 ⟨rfl, hB7, hb7, ho7⟩
                    have HW7 := Lib.hid (HW6.out.step hB7 hb7)
                    have hL1 : (a0 ++ [Nat.toUInt8 (Int.toNat 59)]).length ≤ 3000000001 := by rw [List.length_append]; simp; omega
                    have HL1 : Hid (printL p b1 b2 b3 b4 = (a0 ++ [Nat.toUInt8 (Int.toNat 59)]) ++ b3 ++ [48] ++ b4) := HL.out
                    generalize a0 ++ [Nat.toUInt8 (Int.toNat 59)] = a1 at *
                    clear p0 p1 p2 p3 p4 p5 p6 p7 p8 p9 pf hB7 hb7 ho7 HL HW6
                    obtain ⟨p0, p1, p2, p3, p4, p5, p6, p7, p8, p9, pf, pz7⟩ := HW7.out.pat.all
                    have HV3 := Lib.hid (HP.out.keep_nil HW7.out.kp)
                    go_wp2_with fail
                    refine (H3.out bb a1 _ v3 HW7.out.bld HV3.out.npre (hblk _ _ HP.out.npre).out (by omega)).mono ?_
                    rintro e w8 ⟨rfl, hB8, hb8, ho8⟩
                    have HW8 := Lib.hid (HW7.out.step hB8 hb8)
                    have hL2 : (a1 ++ b3).length ≤ 4000000001 := by rw [List.length_append]; omega
                    generalize a1 ++ b3 = a2 at *
                    clear hB8 hb8 ho8 HV3 p0 p1 p2 p3 p4 p5 p6 p7 p8 p9 pf
                    go_wp2_with fail
                    refine (bld_byte 48 (by omega) (by omega) HW8.out.bld (by omega)).mono ?_
                    rintro e w9 ⟨rfl, hB9, hb9, ho9⟩
                    have HW9 := Lib.hid (HW8.out.step hB9 hb9)
                    have hL3 : (a2 ++ [Nat.toUInt8 (Int.toNat 48)]).length ≤ 4000000002 := by rw [List.length_append]; simp; omega
                    have HL3 : Hid (printL p b1 b2 b3 b4 = (a2 ++ [Nat.toUInt8 (Int.toNat 48)]) ++ b4) := HL1.out
                    generalize a2 ++ [Nat.toUInt8 (Int.toNat 48)] = a3 at *
                    clear hB9 hb9 ho9 HL1 HW8
                    obtain ⟨p0, p1, p2, p3, p4, p5, p6, p7, p8, p9, pf, pz9⟩ := HW9.out.pat.all
                    have HV4 := Lib.hid (HP.out.keep_nil HW9.out.kp)
                    go_wp2_with fail
                    refine (H4.out bb a3 _ v4 HW9.out.bld HV4.out.nsuf (hblk _ _ HP.out.nsuf).out (by omega)).mono ?_
                    rintro e w10 ⟨rfl, hB10, hb10, ho10⟩
                    have HW10 := Lib.hid (HW9.out.step hB10 hb10)
                    clear p0 p1 p2 p3 p4 p5 p6 p7 p8 p9 pf hB10 hb10 ho10
                    go_wp2
                    go_meet
                    exact ⟨_, HL3.out.symm, by rw [List.length_append]; omega, HW10.out⟩
                case rest =>
                  obtain ⟨acc, hacc, hal2, hW⟩ := hcut
                  have HAC2 := Lib.hid hacc
                  have HWF := Lib.hid hW
                  clear hacc hW HAC HW HW6 p0 p1 p2 p3 p4 p5 p6 p7 p8 p9 pf
                  have HLn : Hid (Calls Tryd.prog 49 #[.pointer (some ⟨bb, 0, none⟩)] wc fun e w' => e = .returned (.int .i64 acc.length) ∧ wc = w') := bld_len HWF.out.bld
                  by_cases hlong : 4096 < acc.length
                  · have HR2 : Hid (printR p b1 b2 b3 b4 = ([], 3)) := by unfold Hid; rw [HR.out, ← HAC2.out, if_pos hlong]
                    go_wp2_with (go_at_call 49; refine HLn.out.mono ?_; rintro e w' ⟨rfl, rfl⟩)
                    go_ret2
                    rw [HR2.out]
                    exact ⟨rfl, HWF.out.kp⟩
                  · have HR2 : Hid (printR p b1 b2 b3 b4 = (acc, 0)) := by unfold Hid; rw [HR.out, ← HAC2.out, if_neg hlong]
                    have hlong2 : acc.length ≤ 4096 := by omega
                    go_wp2_with (go_at_call 49; refine HLn.out.mono ?_; rintro e w' ⟨rfl, rfl⟩)
                    refine (bld_str HWF.out.bld).mono ?_
                    rintro e w11 ⟨rfl, hB11, hb11, _⟩
                    go_wp2
                    go_ret2
                    rw [HR2.out]
                    exact ⟨rfl, (HWF.out.step hB11 hb11).kp⟩
            | succ n =>
              have HCn := hcon wr _ cs HO2.out (by omega) ((n : Int) + 1)
              have hpos : (0 : Int) < (n : Int) + 1 := by omega
              have hpos2 : ((n : Int) + 1 == 0) = false := by simp; omega
              by_cases hm : p.mi < (n : Int) + 1
              · cases hc : cs.contains ((n : Int) + 1)
                · have HD2 : Hid (acc ++ ([35]) ++ digitsF cs p.mi n = b1 ++ digitsF cs p.mi N) := by
                    have := HD.out; simp only [digitsF, hc, if_pos hm] at this; unfold Hid; rw [← this]; simp
                  rw [hc] at HCn
                  clear HD hc hcon
                  go_wp2_with fail
                  refine HCn.out.mono ?_
                  rintro e w' ⟨rfl, rfl⟩
                  go_wp2_with fail
                  refine (bld_byte 35 (by omega) (by omega) HW2.out.bld (by omega)).mono ?_
                  rintro e w5 ⟨rfl, hB5, hb5, ho5⟩
                  have HO5 := Lib.hid (HO2.out.others ho5 (by omega))
                  have HW5 := Lib.hid (HW2.out.step hB5 hb5)
                  clear p0 p1 p2 p3 p4 p5 p6 p7 p8 p9 pf hB5 hb5 ho5
                  go_wp2
                  go_roundg n
                  case measure => omega
                  case rel => exact ⟨_, by omega, by go_num, by simp; omega, HO5.out, HW5.out, by have := HD2.out; simpa using this⟩
                · have HD2 : Hid (acc ++ ([44] ++ [35]) ++ digitsF cs p.mi n = b1 ++ digitsF cs p.mi N) := by
                    have := HD.out; simp only [digitsF, hc, if_pos hm] at this; unfold Hid; rw [← this]; simp
                  rw [hc] at HCn
                  clear HD hc hcon
                  go_wp2_with fail
                  refine HCn.out.mono ?_
                  rintro e w' ⟨rfl, rfl⟩
                  go_wp2_with fail
                  refine (bld_byte 44 (by omega) (by omega) HW2.out.bld (by omega)).mono ?_
                  rintro e w3 ⟨rfl, hB3, hb3, ho3⟩
                  have HO3 := Lib.hid (HO2.out.others ho3 (by omega))
                  have HW3 := Lib.hid (HW2.out.step hB3 hb3)
                  clear p0 p1 p2 p3 p4 p5 p6 p7 p8 p9 pf hB3 hb3 ho3
                  obtain ⟨p0, p1, p2, p3, p4, p5, p6, p7, p8, p9, pf, pz5⟩ := HW3.out.pat.all
                  go_wp2_with fail
                  refine (bld_byte 35 (by omega) (by omega) HW3.out.bld (by rw [List.length_append]; simp; omega)).mono ?_
                  rintro e w5 ⟨rfl, hB5, hb5, ho5⟩
                  have HO5 := Lib.hid (HO3.out.others ho5 (by omega))
                  have HW5 := Lib.hid (HW3.out.step hB5 hb5)
                  clear p0 p1 p2 p3 p4 p5 p6 p7 p8 p9 pf hB5 hb5 ho5
                  go_wp2
                  go_roundg n
                  case measure => omega
                  case rel => exact ⟨_, by omega, by go_num, by simp; omega, HO5.out, HW5.out, by have := HD2.out; simpa using this⟩
              · cases hc : cs.contains ((n : Int) + 1)
                · have HD2 : Hid (acc ++ ([48]) ++ digitsF cs p.mi n = b1 ++ digitsF cs p.mi N) := by
                    have := HD.out; simp only [digitsF, hc, if_neg hm] at this; unfold Hid; rw [← this]; simp
                  rw [hc] at HCn
                  clear HD hc hcon
                  go_wp2_with fail
                  refine HCn.out.mono ?_
                  rintro e w' ⟨rfl, rfl⟩
                  go_wp2_with fail
                  refine (bld_byte 48 (by omega) (by omega) HW2.out.bld (by omega)).mono ?_
                  rintro e w5 ⟨rfl, hB5, hb5, ho5⟩
                  have HO5 := Lib.hid (HO2.out.others ho5 (by omega))
                  have HW5 := Lib.hid (HW2.out.step hB5 hb5)
                  clear p0 p1 p2 p3 p4 p5 p6 p7 p8 p9 pf hB5 hb5 ho5
                  go_wp2
                  go_roundg n
                  case measure => omega
                  case rel => exact ⟨_, by omega, by go_num, by simp; omega, HO5.out, HW5.out, by have := HD2.out; simpa using this⟩
                · have HD2 : Hid (acc ++ ([44] ++ [48]) ++ digitsF cs p.mi n = b1 ++ digitsF cs p.mi N) := by
                    have := HD.out; simp only [digitsF, hc, if_neg hm] at this; unfold Hid; rw [← this]; simp
                  rw [hc] at HCn
                  clear HD hc hcon
                  go_wp2_with fail
                  refine HCn.out.mono ?_
                  rintro e w' ⟨rfl, rfl⟩
                  go_wp2_with fail
                  refine (bld_byte 44 (by omega) (by omega) HW2.out.bld (by omega)).mono ?_
                  rintro e w3 ⟨rfl, hB3, hb3, ho3⟩
                  have HO3 := Lib.hid (HO2.out.others ho3 (by omega))
                  have HW3 := Lib.hid (HW2.out.step hB3 hb3)
                  clear p0 p1 p2 p3 p4 p5 p6 p7 p8 p9 pf hB3 hb3 ho3
                  obtain ⟨p0, p1, p2, p3, p4, p5, p6, p7, p8, p9, pf, pz5⟩ := HW3.out.pat.all
                  go_wp2_with fail
                  refine (bld_byte 48 (by omega) (by omega) HW3.out.bld (by rw [List.length_append]; simp; omega)).mono ?_
                  rintro e w5 ⟨rfl, hB5, hb5, ho5⟩
                  have HO5 := Lib.hid (HO3.out.others ho5 (by omega))
                  have HW5 := Lib.hid (HW3.out.step hB5 hb5)
                  clear p0 p1 p2 p3 p4 p5 p6 p7 p8 p9 pf hB5 hb5 ho5
                  go_wp2
                  go_roundg n
                  case measure => omega
                  case rel => exact ⟨_, by omega, by go_num, by simp; omega, HO5.out, HW5.out, by have := HD2.out; simpa using this⟩
end Go.Proofs.YtkkglaglnfebjaaDoor
