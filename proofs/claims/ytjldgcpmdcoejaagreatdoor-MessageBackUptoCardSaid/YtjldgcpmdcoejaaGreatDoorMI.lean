/- Walks: argument of the reader of messages, at a type. -/
import Derived.Test.YtjldgcpmdcoejaaGreatDoorMG
namespace Go.Proofs.YtjldgcpmdcoejaaGreatDoor
open Go.RowKit

set_option maxRecDepth 100000 in
set_option maxHeartbeats 16000000 in
/-- argument, at a type. -/
theorem arg_typed {B f : Nat} (w : World) (g : Nat) (s : ByteArray) (p n d : Nat) (v : Value) (hl : List Bool) (hE : EnvM B w) (hBg : B ≤ g) (h : Rr w g s p n d v) (hH : Hs B w v hl) (hp : p < s.size) (hs : s.size ≤ 1000000000) (hn : n ≤ 1024)
    (nm wd : ByteArray) (p1 p2 p3 p5 : Nat) (hnm : nameS s (p + 1) = .ok nm p1) (h125 : byt s (skip s p1) ≠ 125) (hs2 : signS s 44 (skip s p1) = .ok () p2) (hs3 : nameS s (skip s p2) = .ok wd p3)
    (hw4 : (wd.toList == [115, 101, 108, 101, 99, 116]) = false) (hw5 : (wd.toList == [112, 108, 117, 114, 97, 108]) = false) (hw6 : (wd.toList == [115, 101, 108, 101, 99, 116, 111, 114, 100, 105, 110, 97, 108]) = false) (hwt : memW typesW wd = true) (hwe : wd.toList.isEmpty = false)
    (h44 : byt s (skip s p3) ≠ 44) (hs6 : signS s 125 (skip s p3) = .ok () p5) :
    Calls Tryz.prog 69 #[.pointer (some ⟨g, 0, none⟩)] w (APost f w B g s p d v hl (.ok (nameP 3 nm wd ⟨#[]⟩) p5 n)) := by
  have HE := Lib.hid hE
  have HR := Lib.hid h
  have HH := Lib.hid hH
  obtain ⟨c0, c1, c2, c3, c4, f1, f2, f3, f4⟩ := h.cells
  have hgl := h.lt
  have hp1 := nameS_ge hnm
  have hk1 := skip_ge s p1
  have hk1s := skip_le s p1 hp1.2
  have hp2 := signS_ge (by omega) hs2
  have hk2 := skip_ge s p2
  have hk2s := skip_le s p2 hp2.2
  have hp3 := nameS_ge hs3
  have hvg : Hid (∀ x ∈ v.ownBlock.toList, x ≠ g) := fun x hx => by rintro rfl; exact own_blk_ne hH h (by decide) (by simpa using hx)
  have HO := Lib.hid (show (byt s (skip s p1) == 125) = false by simpa using h125)
  have HNM := Lib.hid hnm
  have HS2 := Lib.hid hs2
  have HS3 := Lib.hid hs3
  have HS6 := Lib.hid hs6
  have H44 := Lib.hid (show (byt s (skip s p3) == 44) = false by simpa using h44)
  have hk3 := skip_ge s p3
  have hk3s := skip_le s p3 hp3.2
  have hp5 := signS_ge (by omega) hs6
  clear h hH hE hnm h125 hs2 hs3 hs6 h44
  go_enter Tryz.func69, Tryz.ntmps69
  go_wp2_with fail
  have hR1 : Rr ((w.setCell ⟨g, 1, none⟩ (.int .i64 ((p : Int) + 1))).alloc (.cells #[.int .i64 0, .string ⟨#[]⟩, .string ⟨#[]⟩, .string ⟨#[]⟩, .string ⟨#[]⟩, .int .i64 0, .slice none 0 0] 47)) g s (p + 1) n d v := Blk.alloc (HR.out.setAt (p + 1) _ (by omega)) _
  have hB1 : Blk ((w.setCell ⟨g, 1, none⟩ (.int .i64 ((p : Int) + 1))).alloc (.cells #[.int .i64 0, .string ⟨#[]⟩, .string ⟨#[]⟩, .string ⟨#[]⟩, .string ⟨#[]⟩, .int .i64 0, .slice none 0 0] 47)) w.heap.size 47 ((nameP 0 ⟨#[]⟩ ⟨#[]⟩ ⟨#[]⟩).cells (.slice none 0 0)).toArray := Blk.new' _ _ _ _ (by simp [World.setCell])
  have hK1 : Keep [g] w ((w.setCell ⟨g, 1, none⟩ (.int .i64 ((p : Int) + 1))).alloc (.cells #[.int .i64 0, .string ⟨#[]⟩, .string ⟨#[]⟩, .string ⟨#[]⟩, .string ⟨#[]⟩, .int .i64 0, .slice none 0 0] 47)) := ((Keep.refl [g] w).setCell (p := ⟨g, 1, none⟩) (.inl (by simp)) _).alloc _
  generalize (w.setCell ⟨g, 1, none⟩ (.int .i64 ((p : Int) + 1))).alloc (.cells #[.int .i64 0, .string ⟨#[]⟩, .string ⟨#[]⟩, .string ⟨#[]⟩, .string ⟨#[]⟩, .int .i64 0, .slice none 0 0] 47) = W1 at *
  obtain ⟨rb, hrb⟩ : ∃ rb, w.heap.size = rb := ⟨_, rfl⟩
  rw [hrb] at hB1 hgl ⊢
  have HRB := Lib.hid hrb
  have HN1 := Lib.hid (name_any W1 g s (p + 1) n d v hR1 (by omega) (by omega))
  rw [HNM.out] at HN1
  have HB1 := Lib.hid hB1
  have HK1 := Lib.hid hK1
  clear hR1 hB1 hK1 c0 c1 c2 c3 c4 f1 f2 f3 f4 hrb
  refine HN1.out.mono ?_
  rintro x W2 ⟨rfl, hR2, hk2'⟩
  have HK2 := Lib.hid (HK1.out.same hk2')
  have HB2 := Lib.hid (HB1.out.keep hk2' (by simp; omega))
  have hrb2 : rb < W2.heap.size := HB2.out.lt
  have HR2 := Lib.hid hR2
  clear hR2 hk2' HN1
  go_wp2_with fail
  have hR3 : Rr (W2.alloc (.cells #[.int .i64 3, .string ⟨#[]⟩, .string nm, .string ⟨#[]⟩, .string ⟨#[]⟩, .int .i64 0, .slice none 0 0] 47)) g s p1 n d v := Blk.alloc HR2.out _
  have hP3 : Blk (W2.alloc (.cells #[.int .i64 3, .string ⟨#[]⟩, .string nm, .string ⟨#[]⟩, .string ⟨#[]⟩, .int .i64 0, .slice none 0 0] 47)) W2.heap.size 47 ((nameP 3 nm ⟨#[]⟩ ⟨#[]⟩).cells (.slice none 0 0)).toArray := Blk.new _ _ _
  have hB3 : Blk (W2.alloc (.cells #[.int .i64 3, .string ⟨#[]⟩, .string nm, .string ⟨#[]⟩, .string ⟨#[]⟩, .int .i64 0, .slice none 0 0] 47)) rb 47 ((nameP 0 ⟨#[]⟩ ⟨#[]⟩ ⟨#[]⟩).cells (.slice none 0 0)).toArray := Blk.alloc HB2.out _
  have hK3 : Keep [g] w (W2.alloc (.cells #[.int .i64 3, .string ⟨#[]⟩, .string nm, .string ⟨#[]⟩, .string ⟨#[]⟩, .int .i64 0, .slice none 0 0] 47)) := HK2.out.alloc _
  generalize W2.alloc (.cells #[.int .i64 3, .string ⟨#[]⟩, .string nm, .string ⟨#[]⟩, .string ⟨#[]⟩, .int .i64 0, .slice none 0 0] 47) = W3 at *
  obtain ⟨pb, hpb⟩ : ∃ pb, W2.heap.size = pb := ⟨_, rfl⟩
  rw [hpb] at hP3 hrb2 ⊢
  have hzw : rb ≤ pb := by omega
  have HP3 := Lib.hid hP3
  have HB3 := Lib.hid hB3
  have HK3 := Lib.hid hK3
  have HR3 := Lib.hid hR3
  clear hR3 hP3 hB3 hK3 HK2 HB2 HR2 HK1 HB1 hpb
  refine (blanks_any W3 g s p1 n d v HR3.out hp1.2 (by omega)).mono ?_
  rintro x W4 ⟨rfl, hR4, hk4⟩
  generalize skip s p1 = q at *
  have HR4 := Lib.hid hR4
  have HK34 := Lib.hid hk4
  clear hR4 hk4
  go_wp2_with fail
  refine (on_any W4 g s q n d v 125 HR4.out (by omega)).mono ?_
  rintro x W5 ⟨rfl, k5, hW5⟩
  rw [HO.out]
  have HR5 : Hid (Rr W5 g s q n d v) := by unfold Hid; rw [hW5]; exact HR4.out.drewN _
  have HK35 : Hid (Keep [g] W3 W5) := by unfold Hid; rw [hW5]; exact HK34.out.drewN _
  clear hW5
  have HS5 := Lib.hid (sign_any W5 g s q n d v 44 HR5.out (by omega) (by omega) (by omega))
  rw [HS2.out] at HS5
  go_wp2_with fail
  refine HS5.out.mono ?_
  rintro x W6 ⟨rfl, hR6, hk6⟩
  have HK36 := Lib.hid (HK35.out.same hk6)
  have HR6 := Lib.hid hR6
  clear hR6 hk6 HS5
  go_wp2_with fail
  refine (blanks_any W6 g s p2 n d v HR6.out hp2.2 (by omega)).mono ?_
  rintro x W7 ⟨rfl, hR7, hk7⟩
  obtain ⟨c0, c1, c2, c3, c4, f1, f2, f3, f4⟩ := hR7.cells
  have HR7 := Lib.hid hR7
  have HK37 := Lib.hid (HK36.out.same hk7)
  have HN7 := Lib.hid (name_any W7 g s (skip s p2) n d v hR7 hk2s (by omega))
  rw [HS3.out] at HN7
  clear hR7 hk7
  generalize skip s p2 = q2 at *
  go_wp2_with fail
  refine HN7.out.mono ?_
  rintro x W8 ⟨rfl, hR8, hk8⟩
  have hk38 := HK37.out.same hk8
  have hP8 : Blk W8 pb 47 #[.int .i64 3, .string ⟨#[]⟩, .string nm, .string ⟨#[]⟩, .string ⟨#[]⟩, .int .i64 0, .slice none 0 0] := HP3.out.keep hk38 (by simp; omega)
  have hE8 : EnvM B W8 := HE.out.keep (HK3.out.same hk38) (by simpa using hBg)
  have HF8 : Hid (Calls Tryz.prog 98 #[.string ⟨#[110, 117, 109, 98, 101, 114, 32, 100, 97, 116, 101, 32, 116, 105, 109, 101, 32, 108, 105, 115, 116, 32, 117, 110, 105, 116, 32, 114, 101, 108, 97, 116, 105, 118, 101, 32, 112, 108, 97, 110, 101]⟩] W8 fun e w' => e = .returned (.slice (some ⟨W8.heap.size, 0, none⟩) 7 7) ∧ w' = W8.alloc (.cells #[.string ⟨#[110, 117, 109, 98, 101, 114]⟩, .string ⟨#[100, 97, 116, 101]⟩, .string ⟨#[116, 105, 109, 101]⟩, .string ⟨#[108, 105, 115, 116]⟩, .string ⟨#[117, 110, 105, 116]⟩, .string ⟨#[114, 101, 108, 97, 116, 105, 118, 101]⟩, .string ⟨#[112, 108, 97, 110, 101]⟩] 9)) := fields_words (B := B) _ typesW W8 hE8 (by decide) (by decide) (by decide)
  have HC8 : Hid (Calls Tryz.prog 97 #[.slice (some ⟨W8.heap.size, 0, none⟩) 7 7, .string wd] (W8.alloc (.cells #[.string ⟨#[110, 117, 109, 98, 101, 114]⟩, .string ⟨#[100, 97, 116, 101]⟩, .string ⟨#[116, 105, 109, 101]⟩, .string ⟨#[108, 105, 115, 116]⟩, .string ⟨#[117, 110, 105, 116]⟩, .string ⟨#[114, 101, 108, 97, 116, 105, 118, 101]⟩, .string ⟨#[112, 108, 97, 110, 101]⟩] 9)) fun e w' => e = .returned (.bool (memW typesW wd)) ∧ w' = W8.alloc (.cells #[.string ⟨#[110, 117, 109, 98, 101, 114]⟩, .string ⟨#[100, 97, 116, 101]⟩, .string ⟨#[116, 105, 109, 101]⟩, .string ⟨#[108, 105, 115, 116]⟩, .string ⟨#[117, 110, 105, 116]⟩, .string ⟨#[114, 101, 108, 97, 116, 105, 118, 101]⟩, .string ⟨#[112, 108, 97, 110, 101]⟩] 9)) := words_contain W8 _ rfl typesW wd (by decide)
  rw [hwt] at HC8
  have hpb8 : pb < W8.heap.size := hP8.lt
  have hgb8 : g < W8.heap.size := hR8.lt
  have a3 : W8.cell? ⟨pb, 3, none⟩ = some (.string ⟨#[]⟩) := hP8.cell_eq rfl
  have az := hP8.frozen 3
  have HP8 := Lib.hid hP8
  have HR8 := Lib.hid hR8
  have HK38 := Lib.hid hk38
  clear hR8 hk8 hP8 hk38 HN7 hE8 hwt c0 c1 c2 c3 c4 f1 f2 f3 f4
  go_wp2_with (first | (go_at_call 98; refine HF8.out.mono ?_; rintro e w' ⟨rfl, rfl⟩) | (go_at_call 97; refine HC8.out.mono ?_; rintro e w' ⟨rfl, rfl⟩))
  have hk9 : Keep [pb] W8 ((W8.setCell ⟨pb, 3, none⟩ (.string wd)).alloc (.cells #[.string ⟨#[110, 117, 109, 98, 101, 114]⟩, .string ⟨#[100, 97, 116, 101]⟩, .string ⟨#[116, 105, 109, 101]⟩, .string ⟨#[108, 105, 115, 116]⟩, .string ⟨#[117, 110, 105, 116]⟩, .string ⟨#[114, 101, 108, 97, 116, 105, 118, 101]⟩, .string ⟨#[112, 108, 97, 110, 101]⟩] 9)) := ((Keep.refl _ _).setCell (p := ⟨pb, 3, none⟩) (.inl (by simp)) _).alloc _
  have hP9 : Blk ((W8.setCell ⟨pb, 3, none⟩ (.string wd)).alloc (.cells #[.string ⟨#[110, 117, 109, 98, 101, 114]⟩, .string ⟨#[100, 97, 116, 101]⟩, .string ⟨#[116, 105, 109, 101]⟩, .string ⟨#[108, 105, 115, 116]⟩, .string ⟨#[117, 110, 105, 116]⟩, .string ⟨#[114, 101, 108, 97, 116, 105, 118, 101]⟩, .string ⟨#[112, 108, 97, 110, 101]⟩] 9)) pb 47 ((nameP 3 nm wd ⟨#[]⟩).cells (.slice none 0 0)).toArray := Blk.alloc (Blk.set_ HP8.out 3 _) _
  generalize (W8.setCell ⟨pb, 3, none⟩ (.string wd)).alloc (.cells #[.string ⟨#[110, 117, 109, 98, 101, 114]⟩, .string ⟨#[100, 97, 116, 101]⟩, .string ⟨#[116, 105, 109, 101]⟩, .string ⟨#[108, 105, 115, 116]⟩, .string ⟨#[117, 110, 105, 116]⟩, .string ⟨#[114, 101, 108, 97, 116, 105, 118, 101]⟩, .string ⟨#[112, 108, 97, 110, 101]⟩] 9) = W9 at *
  have hR9 := HR8.out.keep hk9 (by simp; omega)
  have hB9 := (HB3.out.keep HK38.out (by simp; omega)).keep hk9 (by simp; omega)
  have hK9 := HK3.out.same (HK38.out) |>.trans hk9 (fun x hx => .inr (by simp at hx; subst hx; have := HRB.out; omega))
  have HP9 := Lib.hid hP9
  have HB9 := Lib.hid hB9
  have HK9 := Lib.hid hK9
  have HR9 := Lib.hid hR9
  clear hP9 hB9 hK9 hR9 hk9 a3 az
  refine (blanks_any W9 g s p3 n d v HR9.out hp3.2 (by omega)).mono ?_
  rintro x W10 ⟨rfl, hR10, hk10⟩
  have HR10 := Lib.hid hR10
  have HK10 := Lib.hid hk10
  clear hR10 hk10
  go_wp2_with fail
  refine (on_any W10 g s (skip s p3) n d v 44 HR10.out (by omega)).mono ?_
  rintro x W11 ⟨rfl, k11, hW11⟩
  rw [H44.out]
  have HR11 : Hid (Rr W11 g s (skip s p3) n d v) := by unfold Hid; rw [hW11]; exact HR10.out.drewN _
  have HK11 : Hid (Keep [g] W9 W11) := by unfold Hid; rw [hW11]; exact HK10.out.drewN _
  clear hW11
  have HS11 := Lib.hid (sign_any W11 g s (skip s p3) n d v 125 HR11.out hk3s (by omega) (by omega))
  rw [HS6.out] at HS11
  have HPX : Hid (Blk W11 pb 47 ((nameP 3 nm wd ⟨#[]⟩).cells (.slice none 0 0)).toArray) := HP9.out.keep HK11.out (by simp; omega)
  have HBX : Hid (Blk W11 rb 47 ((nameP 0 ⟨#[]⟩ ⟨#[]⟩ ⟨#[]⟩).cells (.slice none 0 0)).toArray) := HB9.out.keep HK11.out (by simp; omega)
  have HKX : Hid (Keep [g] w W11) := HK9.out.same HK11.out
  go_wp2_with (go_at_call 96; refine HS11.out.mono ?_; rintro x W12 ⟨rfl, hR12, hk12⟩; have hP12 := HPX.out.keep hk12 (by simp; omega); have hB12 := HBX.out.keep hk12 (by simp; omega); obtain ⟨a0, a1, a2, a3, a4, a5, a6, az⟩ := part_all hP12; obtain ⟨b0, b1, b2, b3, b4, b5, b6, bz⟩ := part_all hB12; have HB12 := Lib.hid hB12; have HR12 := Lib.hid hR12; have HK12 := Lib.hid (HKX.out.same hk12); clear hP12 hB12 hR12 hk12)
  have HB13 := Lib.hid (storeP_blk HB12.out (nameP 3 nm wd ⟨#[]⟩) (.slice none 0 0))
  have HK13 := Lib.hid (storeP_keep W12 rb (nameP 3 nm wd ⟨#[]⟩) (.slice none 0 0))
  change bodyPost Tryz.prog _ _ _ _ (storeP W12 rb (nameP 3 nm wd ⟨#[]⟩) (.slice none 0 0))
  generalize storeP W12 rb (nameP 3 nm wd ⟨#[]⟩) (.slice none 0 0) = W14 at *
  obtain ⟨d0, d1, d2, d3, d4, d5, d6, _⟩ := part_all HB13.out
  have hrv : rb ∉ v.ownBlock.toList := fun hx => by
    have h1 := (World.ownsRow.lt HH.out rb (by simpa using hx)).2
    have h2 := HRB.out
    omega
  have hkk : Keep [g] w W14 := HK12.out.trans HK13.out (fun x hx => .inr (by simp at hx; subst hx; have := HRB.out; omega))
  refine bodyPost_ret (v := .agg #[.int .i64 3, .string ⟨#[]⟩, .string nm, .string wd, .string ⟨#[]⟩, .int .i64 0, .slice none 0 0]) ?_ rfl ⟨.slice none 0 0, v, fun _ => False, rfl, LiesC.nil _ _ _, rfl, fun b hb => hb.elim, HR12.out.keep HK13.out (by simp; omega), HH.out.keep hkk (fun x hx hc => by simp at hc; exact hvg.out x hx hc), fun b hb => .inl hb, hkk.mono (fun x hx => .inl (by simp at hx; simp [hx])), by omega, hp5.2, hn, rfl⟩
  simp [results, Tryz.results69, go_sem, d0, d1, d2, d3, d4, d5, d6, nameP]


set_option maxRecDepth 100000 in
set_option maxHeartbeats 16000000 in
/-- argument, at a type and a style. -/
theorem arg_styled {B f : Nat} (w : World) (g : Nat) (s : ByteArray) (p n d : Nat) (v : Value) (hl : List Bool) (hE : EnvM B w) (hBg : B ≤ g) (h : Rr w g s p n d v) (hH : Hs B w v hl) (hp : p < s.size) (hs : s.size ≤ 1000000000) (hn : n ≤ 1024)
    (nm wd st : ByteArray) (p1 p2 p3 p4 p5 : Nat) (hnm : nameS s (p + 1) = .ok nm p1) (h125 : byt s (skip s p1) ≠ 125) (hs2 : signS s 44 (skip s p1) = .ok () p2) (hs3 : nameS s (skip s p2) = .ok wd p3)
    (hw4 : (wd.toList == [115, 101, 108, 101, 99, 116]) = false) (hw5 : (wd.toList == [112, 108, 117, 114, 97, 108]) = false) (hw6 : (wd.toList == [115, 101, 108, 101, 99, 116, 111, 114, 100, 105, 110, 97, 108]) = false) (hwt : memW typesW wd = true) (hwe : wd.toList.isEmpty = false)
    (h44 : byt s (skip s p3) = 44) (hst : styleS s (skip s p3 + 1) = .ok st p4) (hs6 : signS s 125 p4 = .ok () p5) :
    Calls Tryz.prog 69 #[.pointer (some ⟨g, 0, none⟩)] w (APost f w B g s p d v hl (.ok (nameP 3 nm wd st) p5 n)) := by
  have HE := Lib.hid hE
  have HR := Lib.hid h
  have HH := Lib.hid hH
  obtain ⟨c0, c1, c2, c3, c4, f1, f2, f3, f4⟩ := h.cells
  have hgl := h.lt
  have hp1 := nameS_ge hnm
  have hk1 := skip_ge s p1
  have hk1s := skip_le s p1 hp1.2
  have hp2 := signS_ge (by omega) hs2
  have hk2 := skip_ge s p2
  have hk2s := skip_le s p2 hp2.2
  have hp3 := nameS_ge hs3
  have hvg : Hid (∀ x ∈ v.ownBlock.toList, x ≠ g) := fun x hx => by rintro rfl; exact own_blk_ne hH h (by decide) (by simpa using hx)
  have HO := Lib.hid (show (byt s (skip s p1) == 125) = false by simpa using h125)
  have HNM := Lib.hid hnm
  have HS2 := Lib.hid hs2
  have HS3 := Lib.hid hs3
  have HS6 := Lib.hid hs6
  have HST := Lib.hid hst
  have H44 := Lib.hid (show (byt s (skip s p3) == 44) = true by rw [h44]; rfl)
  have hlt3 : skip s p3 < s.size := byt_lt (by omega)
  have hk3 := skip_ge s p3
  have hk3s := skip_le s p3 hp3.2
  clear h hH hE hnm h125 hs2 hs3 hs6 hst h44
  go_enter Tryz.func69, Tryz.ntmps69
  go_wp2_with fail
  have hR1 : Rr ((w.setCell ⟨g, 1, none⟩ (.int .i64 ((p : Int) + 1))).alloc (.cells #[.int .i64 0, .string ⟨#[]⟩, .string ⟨#[]⟩, .string ⟨#[]⟩, .string ⟨#[]⟩, .int .i64 0, .slice none 0 0] 47)) g s (p + 1) n d v := Blk.alloc (HR.out.setAt (p + 1) _ (by omega)) _
  have hB1 : Blk ((w.setCell ⟨g, 1, none⟩ (.int .i64 ((p : Int) + 1))).alloc (.cells #[.int .i64 0, .string ⟨#[]⟩, .string ⟨#[]⟩, .string ⟨#[]⟩, .string ⟨#[]⟩, .int .i64 0, .slice none 0 0] 47)) w.heap.size 47 ((nameP 0 ⟨#[]⟩ ⟨#[]⟩ ⟨#[]⟩).cells (.slice none 0 0)).toArray := Blk.new' _ _ _ _ (by simp [World.setCell])
  have hK1 : Keep [g] w ((w.setCell ⟨g, 1, none⟩ (.int .i64 ((p : Int) + 1))).alloc (.cells #[.int .i64 0, .string ⟨#[]⟩, .string ⟨#[]⟩, .string ⟨#[]⟩, .string ⟨#[]⟩, .int .i64 0, .slice none 0 0] 47)) := ((Keep.refl [g] w).setCell (p := ⟨g, 1, none⟩) (.inl (by simp)) _).alloc _
  generalize (w.setCell ⟨g, 1, none⟩ (.int .i64 ((p : Int) + 1))).alloc (.cells #[.int .i64 0, .string ⟨#[]⟩, .string ⟨#[]⟩, .string ⟨#[]⟩, .string ⟨#[]⟩, .int .i64 0, .slice none 0 0] 47) = W1 at *
  obtain ⟨rb, hrb⟩ : ∃ rb, w.heap.size = rb := ⟨_, rfl⟩
  rw [hrb] at hB1 hgl ⊢
  have HRB := Lib.hid hrb
  have HN1 := Lib.hid (name_any W1 g s (p + 1) n d v hR1 (by omega) (by omega))
  rw [HNM.out] at HN1
  have HB1 := Lib.hid hB1
  have HK1 := Lib.hid hK1
  clear hR1 hB1 hK1 c0 c1 c2 c3 c4 f1 f2 f3 f4 hrb
  refine HN1.out.mono ?_
  rintro x W2 ⟨rfl, hR2, hk2'⟩
  have HK2 := Lib.hid (HK1.out.same hk2')
  have HB2 := Lib.hid (HB1.out.keep hk2' (by simp; omega))
  have hrb2 : rb < W2.heap.size := HB2.out.lt
  have HR2 := Lib.hid hR2
  clear hR2 hk2' HN1
  go_wp2_with fail
  have hR3 : Rr (W2.alloc (.cells #[.int .i64 3, .string ⟨#[]⟩, .string nm, .string ⟨#[]⟩, .string ⟨#[]⟩, .int .i64 0, .slice none 0 0] 47)) g s p1 n d v := Blk.alloc HR2.out _
  have hP3 : Blk (W2.alloc (.cells #[.int .i64 3, .string ⟨#[]⟩, .string nm, .string ⟨#[]⟩, .string ⟨#[]⟩, .int .i64 0, .slice none 0 0] 47)) W2.heap.size 47 ((nameP 3 nm ⟨#[]⟩ ⟨#[]⟩).cells (.slice none 0 0)).toArray := Blk.new _ _ _
  have hB3 : Blk (W2.alloc (.cells #[.int .i64 3, .string ⟨#[]⟩, .string nm, .string ⟨#[]⟩, .string ⟨#[]⟩, .int .i64 0, .slice none 0 0] 47)) rb 47 ((nameP 0 ⟨#[]⟩ ⟨#[]⟩ ⟨#[]⟩).cells (.slice none 0 0)).toArray := Blk.alloc HB2.out _
  have hK3 : Keep [g] w (W2.alloc (.cells #[.int .i64 3, .string ⟨#[]⟩, .string nm, .string ⟨#[]⟩, .string ⟨#[]⟩, .int .i64 0, .slice none 0 0] 47)) := HK2.out.alloc _
  generalize W2.alloc (.cells #[.int .i64 3, .string ⟨#[]⟩, .string nm, .string ⟨#[]⟩, .string ⟨#[]⟩, .int .i64 0, .slice none 0 0] 47) = W3 at *
  obtain ⟨pb, hpb⟩ : ∃ pb, W2.heap.size = pb := ⟨_, rfl⟩
  rw [hpb] at hP3 hrb2 ⊢
  have hzw : rb ≤ pb := by omega
  have HP3 := Lib.hid hP3
  have HB3 := Lib.hid hB3
  have HK3 := Lib.hid hK3
  have HR3 := Lib.hid hR3
  clear hR3 hP3 hB3 hK3 HK2 HB2 HR2 HK1 HB1 hpb
  refine (blanks_any W3 g s p1 n d v HR3.out hp1.2 (by omega)).mono ?_
  rintro x W4 ⟨rfl, hR4, hk4⟩
  generalize skip s p1 = q at *
  have HR4 := Lib.hid hR4
  have HK34 := Lib.hid hk4
  clear hR4 hk4
  go_wp2_with fail
  refine (on_any W4 g s q n d v 125 HR4.out (by omega)).mono ?_
  rintro x W5 ⟨rfl, k5, hW5⟩
  rw [HO.out]
  have HR5 : Hid (Rr W5 g s q n d v) := by unfold Hid; rw [hW5]; exact HR4.out.drewN _
  have HK35 : Hid (Keep [g] W3 W5) := by unfold Hid; rw [hW5]; exact HK34.out.drewN _
  clear hW5
  have HS5 := Lib.hid (sign_any W5 g s q n d v 44 HR5.out (by omega) (by omega) (by omega))
  rw [HS2.out] at HS5
  go_wp2_with fail
  refine HS5.out.mono ?_
  rintro x W6 ⟨rfl, hR6, hk6⟩
  have HK36 := Lib.hid (HK35.out.same hk6)
  have HR6 := Lib.hid hR6
  clear hR6 hk6 HS5
  go_wp2_with fail
  refine (blanks_any W6 g s p2 n d v HR6.out hp2.2 (by omega)).mono ?_
  rintro x W7 ⟨rfl, hR7, hk7⟩
  obtain ⟨c0, c1, c2, c3, c4, f1, f2, f3, f4⟩ := hR7.cells
  have HR7 := Lib.hid hR7
  have HK37 := Lib.hid (HK36.out.same hk7)
  have HN7 := Lib.hid (name_any W7 g s (skip s p2) n d v hR7 hk2s (by omega))
  rw [HS3.out] at HN7
  clear hR7 hk7
  generalize skip s p2 = q2 at *
  go_wp2_with fail
  refine HN7.out.mono ?_
  rintro x W8 ⟨rfl, hR8, hk8⟩
  have hk38 := HK37.out.same hk8
  have hP8 : Blk W8 pb 47 #[.int .i64 3, .string ⟨#[]⟩, .string nm, .string ⟨#[]⟩, .string ⟨#[]⟩, .int .i64 0, .slice none 0 0] := HP3.out.keep hk38 (by simp; omega)
  have hE8 : EnvM B W8 := HE.out.keep (HK3.out.same hk38) (by simpa using hBg)
  have HF8 : Hid (Calls Tryz.prog 98 #[.string ⟨#[110, 117, 109, 98, 101, 114, 32, 100, 97, 116, 101, 32, 116, 105, 109, 101, 32, 108, 105, 115, 116, 32, 117, 110, 105, 116, 32, 114, 101, 108, 97, 116, 105, 118, 101, 32, 112, 108, 97, 110, 101]⟩] W8 fun e w' => e = .returned (.slice (some ⟨W8.heap.size, 0, none⟩) 7 7) ∧ w' = W8.alloc (.cells #[.string ⟨#[110, 117, 109, 98, 101, 114]⟩, .string ⟨#[100, 97, 116, 101]⟩, .string ⟨#[116, 105, 109, 101]⟩, .string ⟨#[108, 105, 115, 116]⟩, .string ⟨#[117, 110, 105, 116]⟩, .string ⟨#[114, 101, 108, 97, 116, 105, 118, 101]⟩, .string ⟨#[112, 108, 97, 110, 101]⟩] 9)) := fields_words (B := B) _ typesW W8 hE8 (by decide) (by decide) (by decide)
  have HC8 : Hid (Calls Tryz.prog 97 #[.slice (some ⟨W8.heap.size, 0, none⟩) 7 7, .string wd] (W8.alloc (.cells #[.string ⟨#[110, 117, 109, 98, 101, 114]⟩, .string ⟨#[100, 97, 116, 101]⟩, .string ⟨#[116, 105, 109, 101]⟩, .string ⟨#[108, 105, 115, 116]⟩, .string ⟨#[117, 110, 105, 116]⟩, .string ⟨#[114, 101, 108, 97, 116, 105, 118, 101]⟩, .string ⟨#[112, 108, 97, 110, 101]⟩] 9)) fun e w' => e = .returned (.bool (memW typesW wd)) ∧ w' = W8.alloc (.cells #[.string ⟨#[110, 117, 109, 98, 101, 114]⟩, .string ⟨#[100, 97, 116, 101]⟩, .string ⟨#[116, 105, 109, 101]⟩, .string ⟨#[108, 105, 115, 116]⟩, .string ⟨#[117, 110, 105, 116]⟩, .string ⟨#[114, 101, 108, 97, 116, 105, 118, 101]⟩, .string ⟨#[112, 108, 97, 110, 101]⟩] 9)) := words_contain W8 _ rfl typesW wd (by decide)
  rw [hwt] at HC8
  have hpb8 : pb < W8.heap.size := hP8.lt
  have hgb8 : g < W8.heap.size := hR8.lt
  have a3 : W8.cell? ⟨pb, 3, none⟩ = some (.string ⟨#[]⟩) := hP8.cell_eq rfl
  have az := hP8.frozen 3
  have HP8 := Lib.hid hP8
  have HR8 := Lib.hid hR8
  have HK38 := Lib.hid hk38
  clear hR8 hk8 hP8 hk38 HN7 hE8 hwt c0 c1 c2 c3 c4 f1 f2 f3 f4
  go_wp2_with (first | (go_at_call 98; refine HF8.out.mono ?_; rintro e w' ⟨rfl, rfl⟩) | (go_at_call 97; refine HC8.out.mono ?_; rintro e w' ⟨rfl, rfl⟩))
  have hk9 : Keep [pb] W8 ((W8.setCell ⟨pb, 3, none⟩ (.string wd)).alloc (.cells #[.string ⟨#[110, 117, 109, 98, 101, 114]⟩, .string ⟨#[100, 97, 116, 101]⟩, .string ⟨#[116, 105, 109, 101]⟩, .string ⟨#[108, 105, 115, 116]⟩, .string ⟨#[117, 110, 105, 116]⟩, .string ⟨#[114, 101, 108, 97, 116, 105, 118, 101]⟩, .string ⟨#[112, 108, 97, 110, 101]⟩] 9)) := ((Keep.refl _ _).setCell (p := ⟨pb, 3, none⟩) (.inl (by simp)) _).alloc _
  have hP9 : Blk ((W8.setCell ⟨pb, 3, none⟩ (.string wd)).alloc (.cells #[.string ⟨#[110, 117, 109, 98, 101, 114]⟩, .string ⟨#[100, 97, 116, 101]⟩, .string ⟨#[116, 105, 109, 101]⟩, .string ⟨#[108, 105, 115, 116]⟩, .string ⟨#[117, 110, 105, 116]⟩, .string ⟨#[114, 101, 108, 97, 116, 105, 118, 101]⟩, .string ⟨#[112, 108, 97, 110, 101]⟩] 9)) pb 47 ((nameP 3 nm wd ⟨#[]⟩).cells (.slice none 0 0)).toArray := Blk.alloc (Blk.set_ HP8.out 3 _) _
  generalize (W8.setCell ⟨pb, 3, none⟩ (.string wd)).alloc (.cells #[.string ⟨#[110, 117, 109, 98, 101, 114]⟩, .string ⟨#[100, 97, 116, 101]⟩, .string ⟨#[116, 105, 109, 101]⟩, .string ⟨#[108, 105, 115, 116]⟩, .string ⟨#[117, 110, 105, 116]⟩, .string ⟨#[114, 101, 108, 97, 116, 105, 118, 101]⟩, .string ⟨#[112, 108, 97, 110, 101]⟩] 9) = W9 at *
  have hR9 := HR8.out.keep hk9 (by simp; omega)
  have hB9 := (HB3.out.keep HK38.out (by simp; omega)).keep hk9 (by simp; omega)
  have hK9 := HK3.out.same (HK38.out) |>.trans hk9 (fun x hx => .inr (by simp at hx; subst hx; have := HRB.out; omega))
  have HP9 := Lib.hid hP9
  have HB9 := Lib.hid hB9
  have HK9 := Lib.hid hK9
  have HR9 := Lib.hid hR9
  clear hP9 hB9 hK9 hR9 hk9 a3 az
  refine (blanks_any W9 g s p3 n d v HR9.out hp3.2 (by omega)).mono ?_
  rintro x W10 ⟨rfl, hR10, hk10⟩
  have HR10 := Lib.hid hR10
  have HK10 := Lib.hid hk10
  clear hR10 hk10
  go_wp2_with fail
  refine (on_any W10 g s (skip s p3) n d v 44 HR10.out (by omega)).mono ?_
  rintro x W11 ⟨rfl, k11, hW11⟩
  rw [H44.out]
  have HR11 : Hid (Rr W11 g s (skip s p3) n d v) := by unfold Hid; rw [hW11]; exact HR10.out.drewN _
  have HK11 : Hid (Keep [g] W9 W11) := by unfold Hid; rw [hW11]; exact HK10.out.drewN _
  clear hW11
  obtain ⟨c0, c1, c2, c3, c4, f1, f2, f3, f4⟩ := HR11.out.cells
  have hk12 : Keep [g] W11 (W11.setCell ⟨g, 1, none⟩ (.int .i64 ((skip s p3 : Nat) + 1))) := (Keep.refl _ _).setCell (.inl (by simp)) _
  have HST12 := Lib.hid (style_any _ g s (skip s p3 + 1) n d v (HR11.out.setAt (skip s p3 + 1) ((skip s p3 : Nat) + 1) (by omega)) (by omega) hs)
  rw [HST.out] at HST12
  have HK12 := Lib.hid hk12
  clear hk12
  go_wp2_with fail
  refine HST12.out.mono ?_
  rintro x W13 ⟨rfl, hR13, hk13⟩
  have HK13' := Lib.hid ((HK11.out.same HK12.out).same hk13)
  have hP13 := HP9.out.keep HK13'.out (by simp; omega)
  have hB13 := HB9.out.keep HK13'.out (by simp; omega)
  obtain ⟨a0, a1, a2, a3, a4, a5, a6, az⟩ := part_all hP13
  have HP13 := Lib.hid hP13
  have HB13' := Lib.hid hB13
  have HR13 := Lib.hid hR13
  clear hP13 hB13 hR13 hk13 c0 c1 c2 c3 c4 f1 f2 f3 f4 HST12
  have hk14 : Keep [pb] W13 (W13.setCell ⟨pb, 4, none⟩ (.string st)) := (Keep.refl _ _).setCell (.inl (by simp)) _
  have hR14 := HR13.out.keep hk14 (by simp; omega)
  have hP14 : Blk (W13.setCell ⟨pb, 4, none⟩ (.string st)) pb 47 ((nameP 3 nm wd st).cells (.slice none 0 0)).toArray := Blk.set_ HP13.out 4 _
  have HBX : Hid (Blk (W13.setCell ⟨pb, 4, none⟩ (.string st)) rb 47 ((nameP 0 ⟨#[]⟩ ⟨#[]⟩ ⟨#[]⟩).cells (.slice none 0 0)).toArray) := HB13'.out.keep hk14 (by simp; omega)
  have HKX : Hid (Keep [g] w (W13.setCell ⟨pb, 4, none⟩ (.string st))) := (HK9.out.same HK13'.out).trans hk14 (fun x hx => .inr (by simp at hx; subst hx; have := HRB.out; omega))
  have HPX := Lib.hid hP14
  have hp4 : p4 ≤ s.size := by
    have := HST.out
    unfold styleS at this
    split at this
    · cases this
    · split at this
      · cases this
      · injection this with _ h
        rw [← h]
        exact styE_le _ _ (skip_le _ _ (by omega))
  have HS11 := Lib.hid (sign_any _ g s p4 n d v 125 hR14 hp4 (by omega) (by omega))
  rw [HS6.out] at HS11
  have hp5 := signS_ge (by omega) HS6.out
  have hp34 : skip s p3 + 1 ≤ p4 := by
    have := HST.out
    unfold styleS at this
    split at this
    · cases this
    · split at this
      · cases this
      · injection this with _ h
        rw [← h]
        exact Nat.le_trans (skip_ge _ _) (styE_ge _ _)
  clear hk14 hR14 hP14
  go_wp2_with (go_at_call 96; refine HS11.out.mono ?_; rintro x W12 ⟨rfl, hR12, hk12⟩; have hP12 := HPX.out.keep hk12 (by simp; omega); have hB12 := HBX.out.keep hk12 (by simp; omega); obtain ⟨a0, a1, a2, a3, a4, a5, a6, az⟩ := part_all hP12; obtain ⟨b0, b1, b2, b3, b4, b5, b6, bz⟩ := part_all hB12; have HB12 := Lib.hid hB12; have HR12 := Lib.hid hR12; have HK12 := Lib.hid (HKX.out.same hk12); clear hP12 hB12 hR12 hk12)
  have HB13 := Lib.hid (storeP_blk HB12.out (nameP 3 nm wd st) (.slice none 0 0))
  have HK13 := Lib.hid (storeP_keep W12 rb (nameP 3 nm wd st) (.slice none 0 0))
  change bodyPost Tryz.prog _ _ _ _ (storeP W12 rb (nameP 3 nm wd st) (.slice none 0 0))
  generalize storeP W12 rb (nameP 3 nm wd st) (.slice none 0 0) = W14 at *
  obtain ⟨d0, d1, d2, d3, d4, d5, d6, _⟩ := part_all HB13.out
  have hrv : rb ∉ v.ownBlock.toList := fun hx => by
    have h1 := (World.ownsRow.lt HH.out rb (by simpa using hx)).2
    have h2 := HRB.out
    omega
  have hkk : Keep [g] w W14 := HK12.out.trans HK13.out (fun x hx => .inr (by simp at hx; subst hx; have := HRB.out; omega))
  refine bodyPost_ret (v := .agg #[.int .i64 3, .string ⟨#[]⟩, .string nm, .string wd, .string st, .int .i64 0, .slice none 0 0]) ?_ rfl ⟨.slice none 0 0, v, fun _ => False, rfl, LiesC.nil _ _ _, rfl, fun b hb => hb.elim, HR12.out.keep HK13.out (by simp; omega), HH.out.keep hkk (fun x hx hc => by simp at hc; exact hvg.out x hx hc), fun b hb => .inl hb, hkk.mono (fun x hx => .inl (by simp at hx; simp [hx])), by omega, hp5.2, hn, rfl⟩
  simp [results, Tryz.results69, go_sem, d0, d1, d2, d3, d4, d5, d6, nameP]

end Go.Proofs.YtjldgcpmdcoejaaGreatDoor
