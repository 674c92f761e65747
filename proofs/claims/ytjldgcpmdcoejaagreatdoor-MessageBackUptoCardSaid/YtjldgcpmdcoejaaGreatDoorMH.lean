/- Walks: argument of the reader of messages, at a choice. -/
import Derived.Test.YtjldgcpmdcoejaaGreatDoorMG
namespace Go.Proofs.YtjldgcpmdcoejaaGreatDoor
open Go.RowKit

theorem toList_lit (l : List UInt8) : ByteArray.toList ⟨l.toArray⟩ = l := by rw [ByteArray.toList_eq]

set_option maxRecDepth 100000 in
set_option maxHeartbeats 16000000 in
/-- argument, at a choice of kind 4. -/
theorem arg_ch4 {B f : Nat} (w : World) (g : Nat) (s : ByteArray) (hM : MsgC s f) (p n d : Nat) (v : Value) (hl : List Bool) (hE : EnvM B w) (hBg : B ≤ g) (h : Rr w g s p n d v) (hH : Hs B w v hl) (hp : p < s.size) (hs : s.size ≤ 1000000000) (hn : n ≤ 1024) (hd : d ≤ 8) (hld : hl.length = d)
    (nm wd : ByteArray) (p1 p2 p3 p4 p5 p6 n5 : Nat) (off : Int) (cs : List CT) (hnm : nameS s (p + 1) = .ok nm p1) (h125 : byt s (skip s p1) ≠ 125) (hs2 : signS s 44 (skip s p1) = .ok () p2) (hs3 : nameS s (skip s p2) = .ok wd p3)
    (hw4 : (wd.toList == [115, 101, 108, 101, 99, 116]) = true) (hs4 : signS s 44 p3 = .ok () p4)
    (hch : choiS s (fun p n => msgF s f (d + 1) (decide ((4 : Int) ≠ 4)) [] p n) f 4 p p4 n d = .ok (off, cs) p5 n5) (hs6 : p5 ≤ s.size → signS s 125 p5 = .ok () p6) :
    Calls Tryz.prog 69 #[.pointer (some ⟨g, 0, none⟩)] w (APost f w B g s p d v hl (.ok ⟨4, ⟨#[]⟩, nm, ⟨#[]⟩, ⟨#[]⟩, off, cs⟩ p6 n5)) := by
  have HE := Lib.hid hE
  have HR := Lib.hid h
  have HH := Lib.hid hH
  obtain ⟨c0, c1, c2, c3, c4, f1, f2, f3, f4⟩ := h.cells
  have hgl := h.lt
  have hp1 := nameS_ge hnm
  have hk1 := skip_ge s p1
  have hk1s := skip_le s p1 hp1.2
  have hp2 := signS_ge (by omega) hs2
  have hk2 := skip_ge s p2
  have hk2s := skip_le s p2 hp2.2
  have hp3 := nameS_ge hs3
  have hp4 := signS_ge (by omega) hs4
  have hvg : Hid (∀ x ∈ v.ownBlock.toList, x ≠ g) := fun x hx => by rintro rfl; exact own_blk_ne hH h (by decide) (by simpa using hx)
  have HO := Lib.hid (show (byt s (skip s p1) == 125) = false by simpa using h125)
  have HNM := Lib.hid hnm
  have HS2 := Lib.hid hs2
  have HS3 := Lib.hid hs3
  have HS4 := Lib.hid hs4
  have HS6 := Lib.hid hs6
  have HCH := Lib.hid hch
  clear h hH hE hnm h125 hs2 hs3 hs4 hs6 hch
  go_enter Tryz.func69, Tryz.ntmps69
  go_wp2_with fail
  have hR1 : Rr ((w.setCell ⟨g, 1, none⟩ (.int .i64 ((p : Int) + 1))).alloc (.cells #[.int .i64 0, .string ⟨#[]⟩, .string ⟨#[]⟩, .string ⟨#[]⟩, .string ⟨#[]⟩, .int .i64 0, .slice none 0 0] 47)) g s (p + 1) n d v := Blk.alloc (HR.out.setAt (p + 1) _ (by omega)) _
  have hB1 : Blk ((w.setCell ⟨g, 1, none⟩ (.int .i64 ((p : Int) + 1))).alloc (.cells #[.int .i64 0, .string ⟨#[]⟩, .string ⟨#[]⟩, .string ⟨#[]⟩, .string ⟨#[]⟩, .int .i64 0, .slice none 0 0] 47)) w.heap.size 47 ((nameP 0 ⟨#[]⟩ ⟨#[]⟩ ⟨#[]⟩).cells (.slice none 0 0)).toArray := Blk.new' _ _ _ _ (by simp [World.setCell])
  have hK1 : Keep [g] w ((w.setCell ⟨g, 1, none⟩ (.int .i64 ((p : Int) + 1))).alloc (.cells #[.int .i64 0, .string ⟨#[]⟩, .string ⟨#[]⟩, .string ⟨#[]⟩, .string ⟨#[]⟩, .int .i64 0, .slice none 0 0] 47)) := ((Keep.refl [g] w).setCell (p := ⟨g, 1, none⟩) (.inl (by simp)) _).alloc _
  generalize (w.setCell ⟨g, 1, none⟩ (.int .i64 ((p : Int) + 1))).alloc (.cells #[.int .i64 0, .string ⟨#[]⟩, .string ⟨#[]⟩, .string ⟨#[]⟩, .string ⟨#[]⟩, .int .i64 0, .slice none 0 0] 47) = W1 at *
  obtain ⟨rb, hrb⟩ : ∃ rb, w.heap.size = rb := ⟨_, rfl⟩
  rw [hrb] at hB1 hgl ⊢
  have HRB := Lib.hid hrb
  have HN1 := Lib.hid (name_any W1 g s (p + 1) n d v hR1 (by omega) (by omega))
  rw [HNM.out] at HN1
  have HB1 := Lib.hid hB1
  have HK1 := Lib.hid hK1
  clear hR1 hB1 hK1 c0 c1 c2 c3 c4 f1 f2 f3 f4 hrb
  refine HN1.out.mono ?_
  rintro x W2 ⟨rfl, hR2, hk2'⟩
  have HK2 := Lib.hid (HK1.out.same hk2')
  have HB2 := Lib.hid (HB1.out.keep hk2' (by simp; omega))
  have hrb2 : rb < W2.heap.size := HB2.out.lt
  have HR2 := Lib.hid hR2
  clear hR2 hk2' HN1
  go_wp2_with fail
  have hR3 : Rr (W2.alloc (.cells #[.int .i64 3, .string ⟨#[]⟩, .string nm, .string ⟨#[]⟩, .string ⟨#[]⟩, .int .i64 0, .slice none 0 0] 47)) g s p1 n d v := Blk.alloc HR2.out _
  have hP3 : Blk (W2.alloc (.cells #[.int .i64 3, .string ⟨#[]⟩, .string nm, .string ⟨#[]⟩, .string ⟨#[]⟩, .int .i64 0, .slice none 0 0] 47)) W2.heap.size 47 ((nameP 3 nm ⟨#[]⟩ ⟨#[]⟩).cells (.slice none 0 0)).toArray := Blk.new _ _ _
  have hB3 : Blk (W2.alloc (.cells #[.int .i64 3, .string ⟨#[]⟩, .string nm, .string ⟨#[]⟩, .string ⟨#[]⟩, .int .i64 0, .slice none 0 0] 47)) rb 47 ((nameP 0 ⟨#[]⟩ ⟨#[]⟩ ⟨#[]⟩).cells (.slice none 0 0)).toArray := Blk.alloc HB2.out _
  have hK3 : Keep [g] w (W2.alloc (.cells #[.int .i64 3, .string ⟨#[]⟩, .string nm, .string ⟨#[]⟩, .string ⟨#[]⟩, .int .i64 0, .slice none 0 0] 47)) := HK2.out.alloc _
  generalize W2.alloc (.cells #[.int .i64 3, .string ⟨#[]⟩, .string nm, .string ⟨#[]⟩, .string ⟨#[]⟩, .int .i64 0, .slice none 0 0] 47) = W3 at *
  obtain ⟨pb, hpb⟩ : ∃ pb, W2.heap.size = pb := ⟨_, rfl⟩
  rw [hpb] at hP3 hrb2 ⊢
  have hzw : rb ≤ pb := by omega
  have HP3 := Lib.hid hP3
  have HB3 := Lib.hid hB3
  have HK3 := Lib.hid hK3
  have HR3 := Lib.hid hR3
  clear hR3 hP3 hB3 hK3 HK2 HB2 HR2 HK1 HB1 hpb
  refine (blanks_any W3 g s p1 n d v HR3.out hp1.2 (by omega)).mono ?_
  rintro x W4 ⟨rfl, hR4, hk4⟩
  generalize skip s p1 = q at *
  have HR4 := Lib.hid hR4
  have HK34 := Lib.hid hk4
  clear hR4 hk4
  go_wp2_with fail
  refine (on_any W4 g s q n d v 125 HR4.out (by omega)).mono ?_
  rintro x W5 ⟨rfl, k5, hW5⟩
  rw [HO.out]
  have HR5 : Hid (Rr W5 g s q n d v) := by unfold Hid; rw [hW5]; exact HR4.out.drewN _
  have HK35 : Hid (Keep [g] W3 W5) := by unfold Hid; rw [hW5]; exact HK34.out.drewN _
  clear hW5
  have HS5 := Lib.hid (sign_any W5 g s q n d v 44 HR5.out (by omega) (by omega) (by omega))
  rw [HS2.out] at HS5
  go_wp2_with fail
  refine HS5.out.mono ?_
  rintro x W6 ⟨rfl, hR6, hk6⟩
  have HK36 := Lib.hid (HK35.out.same hk6)
  have HR6 := Lib.hid hR6
  clear hR6 hk6 HS5
  go_wp2_with fail
  refine (blanks_any W6 g s p2 n d v HR6.out hp2.2 (by omega)).mono ?_
  rintro x W7 ⟨rfl, hR7, hk7⟩
  obtain ⟨c0, c1, c2, c3, c4, f1, f2, f3, f4⟩ := hR7.cells
  have HR7 := Lib.hid hR7
  have HK37 := Lib.hid (HK36.out.same hk7)
  have HN7 := Lib.hid (name_any W7 g s (skip s p2) n d v hR7 hk2s (by omega))
  rw [HS3.out] at HN7
  clear hR7 hk7
  generalize skip s p2 = q2 at *
  go_wp2_with fail
  refine HN7.out.mono ?_
  rintro x W8 ⟨rfl, hR8, hk8⟩
  have hk38 := HK37.out.same hk8
  have hP8 : Blk W8 pb 47 #[.int .i64 3, .string ⟨#[]⟩, .string nm, .string ⟨#[]⟩, .string ⟨#[]⟩, .int .i64 0, .slice none 0 0] := HP3.out.keep hk38 (by simp; omega)
  have a3 : W8.cell? ⟨pb, 3, none⟩ = some (.string ⟨#[]⟩) := hP8.cell_eq rfl
  have az := hP8.frozen 0
  have a0 : W8.cell? ⟨pb, 0, none⟩ = some (.int .i64 3) := hP8.cell_eq rfl
  have he : ByteArray.toList ⟨#[]⟩ = [] := by rw [ByteArray.toList_eq]
  have HP8 := Lib.hid hP8
  have HR8 := Lib.hid hR8
  have HK38 := Lib.hid hk38
  clear hR8 hk8 hP8 hk38 HN7 c0 c1 c2 c3 c4 f1 f2 f3 f4
  go_wp2_with fail
  have hk9 : Keep [pb] W8 (W8.setCell ⟨pb, 0, none⟩ (.int .i64 4)) := (Keep.refl _ _).setCell (.inl (by simp)) _
  have hP9 : Blk (W8.setCell ⟨pb, 0, none⟩ (.int .i64 4)) pb 47 ((nameP 4 nm ⟨#[]⟩ ⟨#[]⟩).cells (.slice none 0 0)).toArray := Blk.set_ HP8.out 0 _
  have hR9 := HR8.out.keep hk9 (by simp; omega)
  have hB9 := (HB3.out.keep HK38.out (by simp; omega)).keep hk9 (by simp; omega)
  have hK9 := HK3.out.same (HK38.out) |>.trans hk9 (fun x hx => .inr (by simp at hx; subst hx; have := HRB.out; omega))
  generalize W8.setCell ⟨pb, 0, none⟩ (.int .i64 4) = W9 at *
  have HP9 := Lib.hid hP9
  have HB9 := Lib.hid hB9
  have HK9 := Lib.hid hK9
  have HS9 := Lib.hid (sign_any W9 g s p3 n d v 44 hR9 hp3.2 (by omega) (by omega))
  rw [HS4.out] at HS9
  clear hP9 hB9 hK9 hR9 hk9 a3 az a0
  refine HS9.out.mono ?_
  rintro x W10 ⟨rfl, hR10, hk10⟩
  have hP10 := HP9.out.keep hk10 (by simp; omega)
  have hK10 := HK9.out.same hk10
  have hH10 := HH.out.keep hK10 (fun x hx hc => by simp at hc; exact hvg.out x hx hc)
  have hrw := HRB.out
  have hEB := HE.out.env.le
  have HCC := Lib.hid (choice_any s f hM hs W10 B g pb (nameP 4 nm ⟨#[]⟩ ⟨#[]⟩) p p4 n d v hl (HE.out.keep hK10 (by simpa using hBg)) hBg (by omega) hR10 hH10 hp4.2 hn hd hld hP10 ⟨rfl, rfl⟩ (by show choiS s (fun p n => msgF s f (d + 1) (decide ((4 : Int) ≠ 4)) [] p n) f 4 p p4 n d ≠ .out; rw [HCH.out]; simp) (by show ∀ e r, choiS s (fun p n => msgF s f (d + 1) (decide ((4 : Int) ≠ 4)) [] p n) f 4 p p4 n d ≠ .bad e r; rw [HCH.out]; simp))
  have hcc : choiS s (fun p n => msgF s f (d + 1) (decide ((nameP 4 nm ⟨#[]⟩ ⟨#[]⟩).k ≠ 4)) [] p n) f (nameP 4 nm ⟨#[]⟩ ⟨#[]⟩).k p p4 n d = .ok (off, cs) p5 n5 := HCH.out
  rw [hcc] at HCC
  have HB10 := Lib.hid (HB9.out.keep hk10 (by simp; omega))
  have HK10 := Lib.hid hK10
  have hzw10 := hK10.size
  have hzp10 := hP10.lt
  have hzr10 := HB10.out.lt
  clear hR10 hk10 hP10 hK10 hH10 hcc hrw
  go_wp2_with fail
  refine HCC.out.mono ?_
  rintro x W11 ⟨rfl, cv, v11, S, hP11, hL11, hS11, hR11, hH11, hV11, hK11, hp45, hp5, hn5⟩
  have hrv : rb ∉ v.ownBlock.toList := fun hx => by
    have h1 := (World.ownsRow.lt HH.out rb (by simpa using hx)).2
    have h2 := HRB.out
    omega
  have hB11 := HB10.out.keep hK11 (by simp; exact ⟨by omega, by omega, by simpa using hrv⟩)
  have HS6' := HS6.out hp5
  have HS11 := Lib.hid (sign_any W11 g s p5 n5 d v11 125 hR11 hp5 (by omega) (by omega))
  rw [HS6'] at HS11
  have hp6 := signS_ge (by omega) HS6'
  have HP11 := Lib.hid hP11
  have HL11 := Lib.hid hL11
  have HSS := Lib.hid hS11
  have HH11 := Lib.hid hH11
  have HV11 := Lib.hid hV11
  have HK11 := Lib.hid hK11
  have HB11 := Lib.hid hB11
  have hgv11 : Hid (∀ x ∈ v11.ownBlock.toList, x ≠ g ∧ x ≠ rb) := fun x hx => ⟨by rintro rfl; exact own_blk_ne hH11 hR11 (by decide) (by simpa using hx), by rintro rfl; exact own_blk_ne hH11 hB11 (by decide) (by simpa using hx)⟩
  obtain ⟨A, m, c, rfl⟩ : ∃ A m c, cv = .slice A m c := by
    obtain ⟨_, _, ⟨A, c, rfl, _⟩, _⟩ := hL11
    exact ⟨_, _, _, rfl⟩
  clear hP11 hL11 hS11 hR11 hH11 hV11 hK11 hB11 HCC HS6' hrv
  go_wp2_with (go_at_call 96; refine HS11.out.mono ?_; rintro x W12 ⟨rfl, hR12, hk12⟩; have hP12 := HP11.out.keep hk12 (by simp; omega); have hB12 := HB11.out.keep hk12 (by simp; omega); obtain ⟨a0, a1, a2, a3, a4, a5, a6, az⟩ := part_all hP12; obtain ⟨b0, b1, b2, b3, b4, b5, b6, bz⟩ := part_all hB12; have HP12 := Lib.hid hP12; have HB12 := Lib.hid hB12; have HR12 := Lib.hid hR12; have HK12 := Lib.hid hk12; clear hP12 hB12 hR12 hk12)
  have HB13 := Lib.hid (storeP_blk HB12.out ({ nameP 4 nm ⟨#[]⟩ ⟨#[]⟩ with off := off } : PT) (.slice A m c))
  have HK13 := Lib.hid (storeP_keep W12 rb ({ nameP 4 nm ⟨#[]⟩ ⟨#[]⟩ with off := off } : PT) (.slice A m c))
  change bodyPost Tryz.prog _ _ _ _ (storeP W12 rb ({ nameP 4 nm ⟨#[]⟩ ⟨#[]⟩ with off := off } : PT) (.slice A m c))
  generalize storeP W12 rb ({ nameP 4 nm ⟨#[]⟩ ⟨#[]⟩ with off := off } : PT) (.slice A m c) = W13 at *
  obtain ⟨d0, d1, d2, d3, d4, d5, d6, _⟩ := part_all HB13.out
  have hrb0 := HRB.out
  have hz10w := HK10.out.size
  have hz1 := HK11.out.size
  have hz2 := HK12.out.size
  have hz3 := HK13.out.size
  refine bodyPost_ret (v := .agg #[.int .i64 4, .string ⟨#[]⟩, .string nm, .string ⟨#[]⟩, .string ⟨#[]⟩, .int .i64 off, .slice A m c]) ?_ rfl ⟨.slice A m c, v11, S, rfl, ?_, rfl, fun b hb => ?_, HR12.out.keep HK13.out (by simp; omega), ?_, fun b hb => ?_, ?_, by omega, hp6.2, hn5, rfl⟩
  · simp [results, Tryz.results69, go_sem, d0, d1, d2, d3, d4, d5, d6, nameP]
  · refine (HL11.out.keep HK12.out (fun x hx hc => ?_)).keep HK13.out (fun x hx hc => ?_)
    · simp at hx; subst hx; have := (HSS.out x hc).1; omega
    · simp at hx; subst hx; have := (HSS.out x hc).1; omega
  · obtain ⟨h1, h2, h3⟩ := HSS.out b hb
    exact ⟨by omega, by omega, h3⟩
  · exact (HH11.out.keep HK12.out (fun x hx hc => by simp at hc; exact (hgv11.out x hx).1 hc)).keep HK13.out (fun x hx hc => by simp at hc; exact (hgv11.out x hx).2 hc)
  · rcases HV11.out b hb with h | h
    · exact .inl h
    · exact .inr (by omega)
  · refine (((HK10.out.mono (cs := g :: v.ownBlock.toList) (fun x hx => .inl (by simp at hx; simp [hx]))).trans HK11.out (fun x hx => ?_)).same (HK12.out.mono (fun x hx => .inl (by simp at hx; simp [hx])))).trans HK13.out (fun x hx => .inr (by simp at hx; subst hx; omega))
    simp only [List.cons_append, List.nil_append, List.mem_cons] at hx
    rcases hx with h | h | h
    · exact .inl (by simp [h])
    · exact .inr (by omega)
    · exact .inl (List.mem_cons_of_mem _ h)

set_option maxRecDepth 100000 in
set_option maxHeartbeats 16000000 in
/-- argument, at a choice of kind 5. -/
theorem arg_ch5 {B f : Nat} (w : World) (g : Nat) (s : ByteArray) (hM : MsgC s f) (p n d : Nat) (v : Value) (hl : List Bool) (hE : EnvM B w) (hBg : B ≤ g) (h : Rr w g s p n d v) (hH : Hs B w v hl) (hp : p < s.size) (hs : s.size ≤ 1000000000) (hn : n ≤ 1024) (hd : d ≤ 8) (hld : hl.length = d)
    (nm wd : ByteArray) (p1 p2 p3 p4 p5 p6 n5 : Nat) (off : Int) (cs : List CT) (hnm : nameS s (p + 1) = .ok nm p1) (h125 : byt s (skip s p1) ≠ 125) (hs2 : signS s 44 (skip s p1) = .ok () p2) (hs3 : nameS s (skip s p2) = .ok wd p3)
    (hw4 : (wd.toList == [115, 101, 108, 101, 99, 116]) = false)
    (hw5 : (wd.toList == [112, 108, 117, 114, 97, 108]) = true) (hs4 : signS s 44 p3 = .ok () p4)
    (hch : choiS s (fun p n => msgF s f (d + 1) (decide ((5 : Int) ≠ 4)) [] p n) f 5 p p4 n d = .ok (off, cs) p5 n5) (hs6 : p5 ≤ s.size → signS s 125 p5 = .ok () p6) :
    Calls Tryz.prog 69 #[.pointer (some ⟨g, 0, none⟩)] w (APost f w B g s p d v hl (.ok ⟨5, ⟨#[]⟩, nm, ⟨#[]⟩, ⟨#[]⟩, off, cs⟩ p6 n5)) := by
  have HE := Lib.hid hE
  have HR := Lib.hid h
  have HH := Lib.hid hH
  obtain ⟨c0, c1, c2, c3, c4, f1, f2, f3, f4⟩ := h.cells
  have hgl := h.lt
  have hp1 := nameS_ge hnm
  have hk1 := skip_ge s p1
  have hk1s := skip_le s p1 hp1.2
  have hp2 := signS_ge (by omega) hs2
  have hk2 := skip_ge s p2
  have hk2s := skip_le s p2 hp2.2
  have hp3 := nameS_ge hs3
  have hp4 := signS_ge (by omega) hs4
  have hvg : Hid (∀ x ∈ v.ownBlock.toList, x ≠ g) := fun x hx => by rintro rfl; exact own_blk_ne hH h (by decide) (by simpa using hx)
  have HO := Lib.hid (show (byt s (skip s p1) == 125) = false by simpa using h125)
  have HNM := Lib.hid hnm
  have HS2 := Lib.hid hs2
  have HS3 := Lib.hid hs3
  have HS4 := Lib.hid hs4
  have HS6 := Lib.hid hs6
  have HCH := Lib.hid hch
  clear h hH hE hnm h125 hs2 hs3 hs4 hs6 hch
  go_enter Tryz.func69, Tryz.ntmps69
  go_wp2_with fail
  have hR1 : Rr ((w.setCell ⟨g, 1, none⟩ (.int .i64 ((p : Int) + 1))).alloc (.cells #[.int .i64 0, .string ⟨#[]⟩, .string ⟨#[]⟩, .string ⟨#[]⟩, .string ⟨#[]⟩, .int .i64 0, .slice none 0 0] 47)) g s (p + 1) n d v := Blk.alloc (HR.out.setAt (p + 1) _ (by omega)) _
  have hB1 : Blk ((w.setCell ⟨g, 1, none⟩ (.int .i64 ((p : Int) + 1))).alloc (.cells #[.int .i64 0, .string ⟨#[]⟩, .string ⟨#[]⟩, .string ⟨#[]⟩, .string ⟨#[]⟩, .int .i64 0, .slice none 0 0] 47)) w.heap.size 47 ((nameP 0 ⟨#[]⟩ ⟨#[]⟩ ⟨#[]⟩).cells (.slice none 0 0)).toArray := Blk.new' _ _ _ _ (by simp [World.setCell])
  have hK1 : Keep [g] w ((w.setCell ⟨g, 1, none⟩ (.int .i64 ((p : Int) + 1))).alloc (.cells #[.int .i64 0, .string ⟨#[]⟩, .string ⟨#[]⟩, .string ⟨#[]⟩, .string ⟨#[]⟩, .int .i64 0, .slice none 0 0] 47)) := ((Keep.refl [g] w).setCell (p := ⟨g, 1, none⟩) (.inl (by simp)) _).alloc _
  generalize (w.setCell ⟨g, 1, none⟩ (.int .i64 ((p : Int) + 1))).alloc (.cells #[.int .i64 0, .string ⟨#[]⟩, .string ⟨#[]⟩, .string ⟨#[]⟩, .string ⟨#[]⟩, .int .i64 0, .slice none 0 0] 47) = W1 at *
  obtain ⟨rb, hrb⟩ : ∃ rb, w.heap.size = rb := ⟨_, rfl⟩
  rw [hrb] at hB1 hgl ⊢
  have HRB := Lib.hid hrb
  have HN1 := Lib.hid (name_any W1 g s (p + 1) n d v hR1 (by omega) (by omega))
  rw [HNM.out] at HN1
  have HB1 := Lib.hid hB1
  have HK1 := Lib.hid hK1
  clear hR1 hB1 hK1 c0 c1 c2 c3 c4 f1 f2 f3 f4 hrb
  refine HN1.out.mono ?_
  rintro x W2 ⟨rfl, hR2, hk2'⟩
  have HK2 := Lib.hid (HK1.out.same hk2')
  have HB2 := Lib.hid (HB1.out.keep hk2' (by simp; omega))
  have hrb2 : rb < W2.heap.size := HB2.out.lt
  have HR2 := Lib.hid hR2
  clear hR2 hk2' HN1
  go_wp2_with fail
  have hR3 : Rr (W2.alloc (.cells #[.int .i64 3, .string ⟨#[]⟩, .string nm, .string ⟨#[]⟩, .string ⟨#[]⟩, .int .i64 0, .slice none 0 0] 47)) g s p1 n d v := Blk.alloc HR2.out _
  have hP3 : Blk (W2.alloc (.cells #[.int .i64 3, .string ⟨#[]⟩, .string nm, .string ⟨#[]⟩, .string ⟨#[]⟩, .int .i64 0, .slice none 0 0] 47)) W2.heap.size 47 ((nameP 3 nm ⟨#[]⟩ ⟨#[]⟩).cells (.slice none 0 0)).toArray := Blk.new _ _ _
  have hB3 : Blk (W2.alloc (.cells #[.int .i64 3, .string ⟨#[]⟩, .string nm, .string ⟨#[]⟩, .string ⟨#[]⟩, .int .i64 0, .slice none 0 0] 47)) rb 47 ((nameP 0 ⟨#[]⟩ ⟨#[]⟩ ⟨#[]⟩).cells (.slice none 0 0)).toArray := Blk.alloc HB2.out _
  have hK3 : Keep [g] w (W2.alloc (.cells #[.int .i64 3, .string ⟨#[]⟩, .string nm, .string ⟨#[]⟩, .string ⟨#[]⟩, .int .i64 0, .slice none 0 0] 47)) := HK2.out.alloc _
  generalize W2.alloc (.cells #[.int .i64 3, .string ⟨#[]⟩, .string nm, .string ⟨#[]⟩, .string ⟨#[]⟩, .int .i64 0, .slice none 0 0] 47) = W3 at *
  obtain ⟨pb, hpb⟩ : ∃ pb, W2.heap.size = pb := ⟨_, rfl⟩
  rw [hpb] at hP3 hrb2 ⊢
  have hzw : rb ≤ pb := by omega
  have HP3 := Lib.hid hP3
  have HB3 := Lib.hid hB3
  have HK3 := Lib.hid hK3
  have HR3 := Lib.hid hR3
  clear hR3 hP3 hB3 hK3 HK2 HB2 HR2 HK1 HB1 hpb
  refine (blanks_any W3 g s p1 n d v HR3.out hp1.2 (by omega)).mono ?_
  rintro x W4 ⟨rfl, hR4, hk4⟩
  generalize skip s p1 = q at *
  have HR4 := Lib.hid hR4
  have HK34 := Lib.hid hk4
  clear hR4 hk4
  go_wp2_with fail
  refine (on_any W4 g s q n d v 125 HR4.out (by omega)).mono ?_
  rintro x W5 ⟨rfl, k5, hW5⟩
  rw [HO.out]
  have HR5 : Hid (Rr W5 g s q n d v) := by unfold Hid; rw [hW5]; exact HR4.out.drewN _
  have HK35 : Hid (Keep [g] W3 W5) := by unfold Hid; rw [hW5]; exact HK34.out.drewN _
  clear hW5
  have HS5 := Lib.hid (sign_any W5 g s q n d v 44 HR5.out (by omega) (by omega) (by omega))
  rw [HS2.out] at HS5
  go_wp2_with fail
  refine HS5.out.mono ?_
  rintro x W6 ⟨rfl, hR6, hk6⟩
  have HK36 := Lib.hid (HK35.out.same hk6)
  have HR6 := Lib.hid hR6
  clear hR6 hk6 HS5
  go_wp2_with fail
  refine (blanks_any W6 g s p2 n d v HR6.out hp2.2 (by omega)).mono ?_
  rintro x W7 ⟨rfl, hR7, hk7⟩
  obtain ⟨c0, c1, c2, c3, c4, f1, f2, f3, f4⟩ := hR7.cells
  have HR7 := Lib.hid hR7
  have HK37 := Lib.hid (HK36.out.same hk7)
  have HN7 := Lib.hid (name_any W7 g s (skip s p2) n d v hR7 hk2s (by omega))
  rw [HS3.out] at HN7
  clear hR7 hk7
  generalize skip s p2 = q2 at *
  go_wp2_with fail
  refine HN7.out.mono ?_
  rintro x W8 ⟨rfl, hR8, hk8⟩
  have hk38 := HK37.out.same hk8
  have hP8 : Blk W8 pb 47 #[.int .i64 3, .string ⟨#[]⟩, .string nm, .string ⟨#[]⟩, .string ⟨#[]⟩, .int .i64 0, .slice none 0 0] := HP3.out.keep hk38 (by simp; omega)
  have a3 : W8.cell? ⟨pb, 3, none⟩ = some (.string ⟨#[]⟩) := hP8.cell_eq rfl
  have az := hP8.frozen 0
  have a0 : W8.cell? ⟨pb, 0, none⟩ = some (.int .i64 3) := hP8.cell_eq rfl
  have he : ByteArray.toList ⟨#[]⟩ = [] := by rw [ByteArray.toList_eq]
  have HP8 := Lib.hid hP8
  have HR8 := Lib.hid hR8
  have HK38 := Lib.hid hk38
  clear hR8 hk8 hP8 hk38 HN7 c0 c1 c2 c3 c4 f1 f2 f3 f4
  go_wp2_with fail
  have hk9 : Keep [pb] W8 (W8.setCell ⟨pb, 0, none⟩ (.int .i64 5)) := (Keep.refl _ _).setCell (.inl (by simp)) _
  have hP9 : Blk (W8.setCell ⟨pb, 0, none⟩ (.int .i64 5)) pb 47 ((nameP 5 nm ⟨#[]⟩ ⟨#[]⟩).cells (.slice none 0 0)).toArray := Blk.set_ HP8.out 0 _
  have hR9 := HR8.out.keep hk9 (by simp; omega)
  have hB9 := (HB3.out.keep HK38.out (by simp; omega)).keep hk9 (by simp; omega)
  have hK9 := HK3.out.same (HK38.out) |>.trans hk9 (fun x hx => .inr (by simp at hx; subst hx; have := HRB.out; omega))
  generalize W8.setCell ⟨pb, 0, none⟩ (.int .i64 5) = W9 at *
  have HP9 := Lib.hid hP9
  have HB9 := Lib.hid hB9
  have HK9 := Lib.hid hK9
  have HS9 := Lib.hid (sign_any W9 g s p3 n d v 44 hR9 hp3.2 (by omega) (by omega))
  rw [HS4.out] at HS9
  clear hP9 hB9 hK9 hR9 hk9 a3 az a0
  refine HS9.out.mono ?_
  rintro x W10 ⟨rfl, hR10, hk10⟩
  have hP10 := HP9.out.keep hk10 (by simp; omega)
  have hK10 := HK9.out.same hk10
  have hH10 := HH.out.keep hK10 (fun x hx hc => by simp at hc; exact hvg.out x hx hc)
  have hrw := HRB.out
  have hEB := HE.out.env.le
  have HCC := Lib.hid (choice_any s f hM hs W10 B g pb (nameP 5 nm ⟨#[]⟩ ⟨#[]⟩) p p4 n d v hl (HE.out.keep hK10 (by simpa using hBg)) hBg (by omega) hR10 hH10 hp4.2 hn hd hld hP10 ⟨rfl, rfl⟩ (by show choiS s (fun p n => msgF s f (d + 1) (decide ((5 : Int) ≠ 4)) [] p n) f 5 p p4 n d ≠ .out; rw [HCH.out]; simp) (by show ∀ e r, choiS s (fun p n => msgF s f (d + 1) (decide ((5 : Int) ≠ 4)) [] p n) f 5 p p4 n d ≠ .bad e r; rw [HCH.out]; simp))
  have hcc : choiS s (fun p n => msgF s f (d + 1) (decide ((nameP 5 nm ⟨#[]⟩ ⟨#[]⟩).k ≠ 4)) [] p n) f (nameP 5 nm ⟨#[]⟩ ⟨#[]⟩).k p p4 n d = .ok (off, cs) p5 n5 := HCH.out
  rw [hcc] at HCC
  have HB10 := Lib.hid (HB9.out.keep hk10 (by simp; omega))
  have HK10 := Lib.hid hK10
  have hzw10 := hK10.size
  have hzp10 := hP10.lt
  have hzr10 := HB10.out.lt
  clear hR10 hk10 hP10 hK10 hH10 hcc hrw
  go_wp2_with fail
  refine HCC.out.mono ?_
  rintro x W11 ⟨rfl, cv, v11, S, hP11, hL11, hS11, hR11, hH11, hV11, hK11, hp45, hp5, hn5⟩
  have hrv : rb ∉ v.ownBlock.toList := fun hx => by
    have h1 := (World.ownsRow.lt HH.out rb (by simpa using hx)).2
    have h2 := HRB.out
    omega
  have hB11 := HB10.out.keep hK11 (by simp; exact ⟨by omega, by omega, by simpa using hrv⟩)
  have HS6' := HS6.out hp5
  have HS11 := Lib.hid (sign_any W11 g s p5 n5 d v11 125 hR11 hp5 (by omega) (by omega))
  rw [HS6'] at HS11
  have hp6 := signS_ge (by omega) HS6'
  have HP11 := Lib.hid hP11
  have HL11 := Lib.hid hL11
  have HSS := Lib.hid hS11
  have HH11 := Lib.hid hH11
  have HV11 := Lib.hid hV11
  have HK11 := Lib.hid hK11
  have HB11 := Lib.hid hB11
  have hgv11 : Hid (∀ x ∈ v11.ownBlock.toList, x ≠ g ∧ x ≠ rb) := fun x hx => ⟨by rintro rfl; exact own_blk_ne hH11 hR11 (by decide) (by simpa using hx), by rintro rfl; exact own_blk_ne hH11 hB11 (by decide) (by simpa using hx)⟩
  obtain ⟨A, m, c, rfl⟩ : ∃ A m c, cv = .slice A m c := by
    obtain ⟨_, _, ⟨A, c, rfl, _⟩, _⟩ := hL11
    exact ⟨_, _, _, rfl⟩
  clear hP11 hL11 hS11 hR11 hH11 hV11 hK11 hB11 HCC HS6' hrv
  go_wp2_with (go_at_call 96; refine HS11.out.mono ?_; rintro x W12 ⟨rfl, hR12, hk12⟩; have hP12 := HP11.out.keep hk12 (by simp; omega); have hB12 := HB11.out.keep hk12 (by simp; omega); obtain ⟨a0, a1, a2, a3, a4, a5, a6, az⟩ := part_all hP12; obtain ⟨b0, b1, b2, b3, b4, b5, b6, bz⟩ := part_all hB12; have HP12 := Lib.hid hP12; have HB12 := Lib.hid hB12; have HR12 := Lib.hid hR12; have HK12 := Lib.hid hk12; clear hP12 hB12 hR12 hk12)
  have HB13 := Lib.hid (storeP_blk HB12.out ({ nameP 5 nm ⟨#[]⟩ ⟨#[]⟩ with off := off } : PT) (.slice A m c))
  have HK13 := Lib.hid (storeP_keep W12 rb ({ nameP 5 nm ⟨#[]⟩ ⟨#[]⟩ with off := off } : PT) (.slice A m c))
  change bodyPost Tryz.prog _ _ _ _ (storeP W12 rb ({ nameP 5 nm ⟨#[]⟩ ⟨#[]⟩ with off := off } : PT) (.slice A m c))
  generalize storeP W12 rb ({ nameP 5 nm ⟨#[]⟩ ⟨#[]⟩ with off := off } : PT) (.slice A m c) = W13 at *
  obtain ⟨d0, d1, d2, d3, d4, d5, d6, _⟩ := part_all HB13.out
  have hrb0 := HRB.out
  have hz10w := HK10.out.size
  have hz1 := HK11.out.size
  have hz2 := HK12.out.size
  have hz3 := HK13.out.size
  refine bodyPost_ret (v := .agg #[.int .i64 5, .string ⟨#[]⟩, .string nm, .string ⟨#[]⟩, .string ⟨#[]⟩, .int .i64 off, .slice A m c]) ?_ rfl ⟨.slice A m c, v11, S, rfl, ?_, rfl, fun b hb => ?_, HR12.out.keep HK13.out (by simp; omega), ?_, fun b hb => ?_, ?_, by omega, hp6.2, hn5, rfl⟩
  · simp [results, Tryz.results69, go_sem, d0, d1, d2, d3, d4, d5, d6, nameP]
  · refine (HL11.out.keep HK12.out (fun x hx hc => ?_)).keep HK13.out (fun x hx hc => ?_)
    · simp at hx; subst hx; have := (HSS.out x hc).1; omega
    · simp at hx; subst hx; have := (HSS.out x hc).1; omega
  · obtain ⟨h1, h2, h3⟩ := HSS.out b hb
    exact ⟨by omega, by omega, h3⟩
  · exact (HH11.out.keep HK12.out (fun x hx hc => by simp at hc; exact (hgv11.out x hx).1 hc)).keep HK13.out (fun x hx hc => by simp at hc; exact (hgv11.out x hx).2 hc)
  · rcases HV11.out b hb with h | h
    · exact .inl h
    · exact .inr (by omega)
  · refine (((HK10.out.mono (cs := g :: v.ownBlock.toList) (fun x hx => .inl (by simp at hx; simp [hx]))).trans HK11.out (fun x hx => ?_)).same (HK12.out.mono (fun x hx => .inl (by simp at hx; simp [hx])))).trans HK13.out (fun x hx => .inr (by simp at hx; subst hx; omega))
    simp only [List.cons_append, List.nil_append, List.mem_cons] at hx
    rcases hx with h | h | h
    · exact .inl (by simp [h])
    · exact .inr (by omega)
    · exact .inl (List.mem_cons_of_mem _ h)

set_option maxRecDepth 100000 in
set_option maxHeartbeats 16000000 in
/-- argument, at a choice of kind 6. -/
theorem arg_ch6 {B f : Nat} (w : World) (g : Nat) (s : ByteArray) (hM : MsgC s f) (p n d : Nat) (v : Value) (hl : List Bool) (hE : EnvM B w) (hBg : B ≤ g) (h : Rr w g s p n d v) (hH : Hs B w v hl) (hp : p < s.size) (hs : s.size ≤ 1000000000) (hn : n ≤ 1024) (hd : d ≤ 8) (hld : hl.length = d)
    (nm wd : ByteArray) (p1 p2 p3 p4 p5 p6 n5 : Nat) (off : Int) (cs : List CT) (hnm : nameS s (p + 1) = .ok nm p1) (h125 : byt s (skip s p1) ≠ 125) (hs2 : signS s 44 (skip s p1) = .ok () p2) (hs3 : nameS s (skip s p2) = .ok wd p3)
    (hw4 : (wd.toList == [115, 101, 108, 101, 99, 116]) = false)
    (hw5 : (wd.toList == [112, 108, 117, 114, 97, 108]) = false)
    (hw6 : (wd.toList == [115, 101, 108, 101, 99, 116, 111, 114, 100, 105, 110, 97, 108]) = true) (hs4 : signS s 44 p3 = .ok () p4)
    (hch : choiS s (fun p n => msgF s f (d + 1) (decide ((6 : Int) ≠ 4)) [] p n) f 6 p p4 n d = .ok (off, cs) p5 n5) (hs6 : p5 ≤ s.size → signS s 125 p5 = .ok () p6) :
    Calls Tryz.prog 69 #[.pointer (some ⟨g, 0, none⟩)] w (APost f w B g s p d v hl (.ok ⟨6, ⟨#[]⟩, nm, ⟨#[]⟩, ⟨#[]⟩, off, cs⟩ p6 n5)) := by
  have HE := Lib.hid hE
  have HR := Lib.hid h
  have HH := Lib.hid hH
  obtain ⟨c0, c1, c2, c3, c4, f1, f2, f3, f4⟩ := h.cells
  have hgl := h.lt
  have hp1 := nameS_ge hnm
  have hk1 := skip_ge s p1
  have hk1s := skip_le s p1 hp1.2
  have hp2 := signS_ge (by omega) hs2
  have hk2 := skip_ge s p2
  have hk2s := skip_le s p2 hp2.2
  have hp3 := nameS_ge hs3
  have hp4 := signS_ge (by omega) hs4
  have hvg : Hid (∀ x ∈ v.ownBlock.toList, x ≠ g) := fun x hx => by rintro rfl; exact own_blk_ne hH h (by decide) (by simpa using hx)
  have HO := Lib.hid (show (byt s (skip s p1) == 125) = false by simpa using h125)
  have HNM := Lib.hid hnm
  have HS2 := Lib.hid hs2
  have HS3 := Lib.hid hs3
  have HS4 := Lib.hid hs4
  have HS6 := Lib.hid hs6
  have HCH := Lib.hid hch
  clear h hH hE hnm h125 hs2 hs3 hs4 hs6 hch
  go_enter Tryz.func69, Tryz.ntmps69
  go_wp2_with fail
  have hR1 : Rr ((w.setCell ⟨g, 1, none⟩ (.int .i64 ((p : Int) + 1))).alloc (.cells #[.int .i64 0, .string ⟨#[]⟩, .string ⟨#[]⟩, .string ⟨#[]⟩, .string ⟨#[]⟩, .int .i64 0, .slice none 0 0] 47)) g s (p + 1) n d v := Blk.alloc (HR.out.setAt (p + 1) _ (by omega)) _
  have hB1 : Blk ((w.setCell ⟨g, 1, none⟩ (.int .i64 ((p : Int) + 1))).alloc (.cells #[.int .i64 0, .string ⟨#[]⟩, .string ⟨#[]⟩, .string ⟨#[]⟩, .string ⟨#[]⟩, .int .i64 0, .slice none 0 0] 47)) w.heap.size 47 ((nameP 0 ⟨#[]⟩ ⟨#[]⟩ ⟨#[]⟩).cells (.slice none 0 0)).toArray := Blk.new' _ _ _ _ (by simp [World.setCell])
  have hK1 : Keep [g] w ((w.setCell ⟨g, 1, none⟩ (.int .i64 ((p : Int) + 1))).alloc (.cells #[.int .i64 0, .string ⟨#[]⟩, .string ⟨#[]⟩, .string ⟨#[]⟩, .string ⟨#[]⟩, .int .i64 0, .slice none 0 0] 47)) := ((Keep.refl [g] w).setCell (p := ⟨g, 1, none⟩) (.inl (by simp)) _).alloc _
  generalize (w.setCell ⟨g, 1, none⟩ (.int .i64 ((p : Int) + 1))).alloc (.cells #[.int .i64 0, .string ⟨#[]⟩, .string ⟨#[]⟩, .string ⟨#[]⟩, .string ⟨#[]⟩, .int .i64 0, .slice none 0 0] 47) = W1 at *
  obtain ⟨rb, hrb⟩ : ∃ rb, w.heap.size = rb := ⟨_, rfl⟩
  rw [hrb] at hB1 hgl ⊢
  have HRB := Lib.hid hrb
  have HN1 := Lib.hid (name_any W1 g s (p + 1) n d v hR1 (by omega) (by omega))
  rw [HNM.out] at HN1
  have HB1 := Lib.hid hB1
  have HK1 := Lib.hid hK1
  clear hR1 hB1 hK1 c0 c1 c2 c3 c4 f1 f2 f3 f4 hrb
  refine HN1.out.mono ?_
  rintro x W2 ⟨rfl, hR2, hk2'⟩
  have HK2 := Lib.hid (HK1.out.same hk2')
  have HB2 := Lib.hid (HB1.out.keep hk2' (by simp; omega))
  have hrb2 : rb < W2.heap.size := HB2.out.lt
  have HR2 := Lib.hid hR2
  clear hR2 hk2' HN1
  go_wp2_with fail
  have hR3 : Rr (W2.alloc (.cells #[.int .i64 3, .string ⟨#[]⟩, .string nm, .string ⟨#[]⟩, .string ⟨#[]⟩, .int .i64 0, .slice none 0 0] 47)) g s p1 n d v := Blk.alloc HR2.out _
  have hP3 : Blk (W2.alloc (.cells #[.int .i64 3, .string ⟨#[]⟩, .string nm, .string ⟨#[]⟩, .string ⟨#[]⟩, .int .i64 0, .slice none 0 0] 47)) W2.heap.size 47 ((nameP 3 nm ⟨#[]⟩ ⟨#[]⟩).cells (.slice none 0 0)).toArray := Blk.new _ _ _
  have hB3 : Blk (W2.alloc (.cells #[.int .i64 3, .string ⟨#[]⟩, .string nm, .string ⟨#[]⟩, .string ⟨#[]⟩, .int .i64 0, .slice none 0 0] 47)) rb 47 ((nameP 0 ⟨#[]⟩ ⟨#[]⟩ ⟨#[]⟩).cells (.slice none 0 0)).toArray := Blk.alloc HB2.out _
  have hK3 : Keep [g] w (W2.alloc (.cells #[.int .i64 3, .string ⟨#[]⟩, .string nm, .string ⟨#[]⟩, .string ⟨#[]⟩, .int .i64 0, .slice none 0 0] 47)) := HK2.out.alloc _
  generalize W2.alloc (.cells #[.int .i64 3, .string ⟨#[]⟩, .string nm, .string ⟨#[]⟩, .string ⟨#[]⟩, .int .i64 0, .slice none 0 0] 47) = W3 at *
  obtain ⟨pb, hpb⟩ : ∃ pb, W2.heap.size = pb := ⟨_, rfl⟩
  rw [hpb] at hP3 hrb2 ⊢
  have hzw : rb ≤ pb := by omega
  have HP3 := Lib.hid hP3
  have HB3 := Lib.hid hB3
  have HK3 := Lib.hid hK3
  have HR3 := Lib.hid hR3
  clear hR3 hP3 hB3 hK3 HK2 HB2 HR2 HK1 HB1 hpb
  refine (blanks_any W3 g s p1 n d v HR3.out hp1.2 (by omega)).mono ?_
  rintro x W4 ⟨rfl, hR4, hk4⟩
  generalize skip s p1 = q at *
  have HR4 := Lib.hid hR4
  have HK34 := Lib.hid hk4
  clear hR4 hk4
  go_wp2_with fail
  refine (on_any W4 g s q n d v 125 HR4.out (by omega)).mono ?_
  rintro x W5 ⟨rfl, k5, hW5⟩
  rw [HO.out]
  have HR5 : Hid (Rr W5 g s q n d v) := by unfold Hid; rw [hW5]; exact HR4.out.drewN _
  have HK35 : Hid (Keep [g] W3 W5) := by unfold Hid; rw [hW5]; exact HK34.out.drewN _
  clear hW5
  have HS5 := Lib.hid (sign_any W5 g s q n d v 44 HR5.out (by omega) (by omega) (by omega))
  rw [HS2.out] at HS5
  go_wp2_with fail
  refine HS5.out.mono ?_
  rintro x W6 ⟨rfl, hR6, hk6⟩
  have HK36 := Lib.hid (HK35.out.same hk6)
  have HR6 := Lib.hid hR6
  clear hR6 hk6 HS5
  go_wp2_with fail
  refine (blanks_any W6 g s p2 n d v HR6.out hp2.2 (by omega)).mono ?_
  rintro x W7 ⟨rfl, hR7, hk7⟩
  obtain ⟨c0, c1, c2, c3, c4, f1, f2, f3, f4⟩ := hR7.cells
  have HR7 := Lib.hid hR7
  have HK37 := Lib.hid (HK36.out.same hk7)
  have HN7 := Lib.hid (name_any W7 g s (skip s p2) n d v hR7 hk2s (by omega))
  rw [HS3.out] at HN7
  clear hR7 hk7
  generalize skip s p2 = q2 at *
  go_wp2_with fail
  refine HN7.out.mono ?_
  rintro x W8 ⟨rfl, hR8, hk8⟩
  have hk38 := HK37.out.same hk8
  have hP8 : Blk W8 pb 47 #[.int .i64 3, .string ⟨#[]⟩, .string nm, .string ⟨#[]⟩, .string ⟨#[]⟩, .int .i64 0, .slice none 0 0] := HP3.out.keep hk38 (by simp; omega)
  have a3 : W8.cell? ⟨pb, 3, none⟩ = some (.string ⟨#[]⟩) := hP8.cell_eq rfl
  have az := hP8.frozen 0
  have a0 : W8.cell? ⟨pb, 0, none⟩ = some (.int .i64 3) := hP8.cell_eq rfl
  have he : ByteArray.toList ⟨#[]⟩ = [] := by rw [ByteArray.toList_eq]
  have HP8 := Lib.hid hP8
  have HR8 := Lib.hid hR8
  have HK38 := Lib.hid hk38
  clear hR8 hk8 hP8 hk38 HN7 c0 c1 c2 c3 c4 f1 f2 f3 f4
  go_wp2_with fail
  have hk9 : Keep [pb] W8 (W8.setCell ⟨pb, 0, none⟩ (.int .i64 6)) := (Keep.refl _ _).setCell (.inl (by simp)) _
  have hP9 : Blk (W8.setCell ⟨pb, 0, none⟩ (.int .i64 6)) pb 47 ((nameP 6 nm ⟨#[]⟩ ⟨#[]⟩).cells (.slice none 0 0)).toArray := Blk.set_ HP8.out 0 _
  have hR9 := HR8.out.keep hk9 (by simp; omega)
  have hB9 := (HB3.out.keep HK38.out (by simp; omega)).keep hk9 (by simp; omega)
  have hK9 := HK3.out.same (HK38.out) |>.trans hk9 (fun x hx => .inr (by simp at hx; subst hx; have := HRB.out; omega))
  generalize W8.setCell ⟨pb, 0, none⟩ (.int .i64 6) = W9 at *
  have HP9 := Lib.hid hP9
  have HB9 := Lib.hid hB9
  have HK9 := Lib.hid hK9
  have HS9 := Lib.hid (sign_any W9 g s p3 n d v 44 hR9 hp3.2 (by omega) (by omega))
  rw [HS4.out] at HS9
  clear hP9 hB9 hK9 hR9 hk9 a3 az a0
  refine HS9.out.mono ?_
  rintro x W10 ⟨rfl, hR10, hk10⟩
  have hP10 := HP9.out.keep hk10 (by simp; omega)
  have hK10 := HK9.out.same hk10
  have hH10 := HH.out.keep hK10 (fun x hx hc => by simp at hc; exact hvg.out x hx hc)
  have hrw := HRB.out
  have hEB := HE.out.env.le
  have HCC := Lib.hid (choice_any s f hM hs W10 B g pb (nameP 6 nm ⟨#[]⟩ ⟨#[]⟩) p p4 n d v hl (HE.out.keep hK10 (by simpa using hBg)) hBg (by omega) hR10 hH10 hp4.2 hn hd hld hP10 ⟨rfl, rfl⟩ (by show choiS s (fun p n => msgF s f (d + 1) (decide ((6 : Int) ≠ 4)) [] p n) f 6 p p4 n d ≠ .out; rw [HCH.out]; simp) (by show ∀ e r, choiS s (fun p n => msgF s f (d + 1) (decide ((6 : Int) ≠ 4)) [] p n) f 6 p p4 n d ≠ .bad e r; rw [HCH.out]; simp))
  have hcc : choiS s (fun p n => msgF s f (d + 1) (decide ((nameP 6 nm ⟨#[]⟩ ⟨#[]⟩).k ≠ 4)) [] p n) f (nameP 6 nm ⟨#[]⟩ ⟨#[]⟩).k p p4 n d = .ok (off, cs) p5 n5 := HCH.out
  rw [hcc] at HCC
  have HB10 := Lib.hid (HB9.out.keep hk10 (by simp; omega))
  have HK10 := Lib.hid hK10
  have hzw10 := hK10.size
  have hzp10 := hP10.lt
  have hzr10 := HB10.out.lt
  clear hR10 hk10 hP10 hK10 hH10 hcc hrw
  go_wp2_with fail
  refine HCC.out.mono ?_
  rintro x W11 ⟨rfl, cv, v11, S, hP11, hL11, hS11, hR11, hH11, hV11, hK11, hp45, hp5, hn5⟩
  have hrv : rb ∉ v.ownBlock.toList := fun hx => by
    have h1 := (World.ownsRow.lt HH.out rb (by simpa using hx)).2
    have h2 := HRB.out
    omega
  have hB11 := HB10.out.keep hK11 (by simp; exact ⟨by omega, by omega, by simpa using hrv⟩)
  have HS6' := HS6.out hp5
  have HS11 := Lib.hid (sign_any W11 g s p5 n5 d v11 125 hR11 hp5 (by omega) (by omega))
  rw [HS6'] at HS11
  have hp6 := signS_ge (by omega) HS6'
  have HP11 := Lib.hid hP11
  have HL11 := Lib.hid hL11
  have HSS := Lib.hid hS11
  have HH11 := Lib.hid hH11
  have HV11 := Lib.hid hV11
  have HK11 := Lib.hid hK11
  have HB11 := Lib.hid hB11
  have hgv11 : Hid (∀ x ∈ v11.ownBlock.toList, x ≠ g ∧ x ≠ rb) := fun x hx => ⟨by rintro rfl; exact own_blk_ne hH11 hR11 (by decide) (by simpa using hx), by rintro rfl; exact own_blk_ne hH11 hB11 (by decide) (by simpa using hx)⟩
  obtain ⟨A, m, c, rfl⟩ : ∃ A m c, cv = .slice A m c := by
    obtain ⟨_, _, ⟨A, c, rfl, _⟩, _⟩ := hL11
    exact ⟨_, _, _, rfl⟩
  clear hP11 hL11 hS11 hR11 hH11 hV11 hK11 hB11 HCC HS6' hrv
  go_wp2_with (go_at_call 96; refine HS11.out.mono ?_; rintro x W12 ⟨rfl, hR12, hk12⟩; have hP12 := HP11.out.keep hk12 (by simp; omega); have hB12 := HB11.out.keep hk12 (by simp; omega); obtain ⟨a0, a1, a2, a3, a4, a5, a6, az⟩ := part_all hP12; obtain ⟨b0, b1, b2, b3, b4, b5, b6, bz⟩ := part_all hB12; have HP12 := Lib.hid hP12; have HB12 := Lib.hid hB12; have HR12 := Lib.hid hR12; have HK12 := Lib.hid hk12; clear hP12 hB12 hR12 hk12)
  have HB13 := Lib.hid (storeP_blk HB12.out ({ nameP 6 nm ⟨#[]⟩ ⟨#[]⟩ with off := off } : PT) (.slice A m c))
  have HK13 := Lib.hid (storeP_keep W12 rb ({ nameP 6 nm ⟨#[]⟩ ⟨#[]⟩ with off := off } : PT) (.slice A m c))
  change bodyPost Tryz.prog _ _ _ _ (storeP W12 rb ({ nameP 6 nm ⟨#[]⟩ ⟨#[]⟩ with off := off } : PT) (.slice A m c))
  generalize storeP W12 rb ({ nameP 6 nm ⟨#[]⟩ ⟨#[]⟩ with off := off } : PT) (.slice A m c) = W13 at *
  obtain ⟨d0, d1, d2, d3, d4, d5, d6, _⟩ := part_all HB13.out
  have hrb0 := HRB.out
  have hz10w := HK10.out.size
  have hz1 := HK11.out.size
  have hz2 := HK12.out.size
  have hz3 := HK13.out.size
  refine bodyPost_ret (v := .agg #[.int .i64 6, .string ⟨#[]⟩, .string nm, .string ⟨#[]⟩, .string ⟨#[]⟩, .int .i64 off, .slice A m c]) ?_ rfl ⟨.slice A m c, v11, S, rfl, ?_, rfl, fun b hb => ?_, HR12.out.keep HK13.out (by simp; omega), ?_, fun b hb => ?_, ?_, by omega, hp6.2, hn5, rfl⟩
  · simp [results, Tryz.results69, go_sem, d0, d1, d2, d3, d4, d5, d6, nameP]
  · refine (HL11.out.keep HK12.out (fun x hx hc => ?_)).keep HK13.out (fun x hx hc => ?_)
    · simp at hx; subst hx; have := (HSS.out x hc).1; omega
    · simp at hx; subst hx; have := (HSS.out x hc).1; omega
  · obtain ⟨h1, h2, h3⟩ := HSS.out b hb
    exact ⟨by omega, by omega, h3⟩
  · exact (HH11.out.keep HK12.out (fun x hx hc => by simp at hc; exact (hgv11.out x hx).1 hc)).keep HK13.out (fun x hx hc => by simp at hc; exact (hgv11.out x hx).2 hc)
  · rcases HV11.out b hb with h | h
    · exact .inl h
    · exact .inr (by omega)
  · refine (((HK10.out.mono (cs := g :: v.ownBlock.toList) (fun x hx => .inl (by simp at hx; simp [hx]))).trans HK11.out (fun x hx => ?_)).same (HK12.out.mono (fun x hx => .inl (by simp at hx; simp [hx])))).trans HK13.out (fun x hx => .inr (by simp at hx; subst hx; omega))
    simp only [List.cons_append, List.nil_append, List.mem_cons] at hx
    rcases hx with h | h | h
    · exact .inl (by simp [h])
    · exact .inr (by omega)
    · exact .inl (List.mem_cons_of_mem _ h)
end Go.Proofs.YtjldgcpmdcoejaaGreatDoor
