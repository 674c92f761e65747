/- Walks: argument of the reader of messages: { name }. -/
import Derived.Test.YtjldgcpmdcoejaaGreatDoorMY
namespace Go.Proofs.YtjldgcpmdcoejaaGreatDoor
open Go.RowKit

theorem skip_at {s : ByteArray} {q : Nat} (h : blI (byt s q) = false) : skip s q = q := by
  unfold skip
  cases s.size - q with
  | zero => rfl
  | succ f => unfold spanF; rw [h]; rfl
/-- A part of its kind and its name. -/
def nameP (k : Int) (nm ty st : ByteArray) : PT := ⟨k, ⟨#[]⟩, nm, ty, st, 0, []⟩
theorem part_all {w : World} {b : Nat} {pt : PT} {cv : Value} (h : Blk w b 47 (pt.cells cv).toArray) :
    w.cell? ⟨b, 0, none⟩ = some (.int .i64 pt.k) ∧ w.cell? ⟨b, 1, none⟩ = some (.string pt.tx) ∧ w.cell? ⟨b, 2, none⟩ = some (.string pt.nm) ∧ w.cell? ⟨b, 3, none⟩ = some (.string pt.ty) ∧ w.cell? ⟨b, 4, none⟩ = some (.string pt.st) ∧ w.cell? ⟨b, 5, none⟩ = some (.int .i64 pt.off) ∧ w.cell? ⟨b, 6, none⟩ = some cv ∧ ∀ i, w.frozen? ⟨b, i, none⟩ = false :=
  ⟨h.cell_eq rfl, h.cell_eq rfl, h.cell_eq rfl, h.cell_eq rfl, h.cell_eq rfl, h.cell_eq rfl, h.cell_eq rfl, h.frozen⟩
/-- A whole part stored into a block of one. -/
def storeP (w : World) (b : Nat) (pt : PT) (cv : Value) : World :=
  ((((((w.setCell ⟨b, 0, none⟩ (.int .i64 pt.k)).setCell ⟨b, 1, none⟩ (.string pt.tx)).setCell ⟨b, 2, none⟩ (.string pt.nm)).setCell ⟨b, 3, none⟩ (.string pt.ty)).setCell ⟨b, 4, none⟩ (.string pt.st)).setCell ⟨b, 5, none⟩ (.int .i64 pt.off)).setCell ⟨b, 6, none⟩ cv
theorem storeP_blk {w : World} {b : Nat} {pt0 : PT} {cv0 : Value} (h : Blk w b 47 (pt0.cells cv0).toArray) (pt : PT) (cv : Value) : Blk (storeP w b pt cv) b 47 (pt.cells cv).toArray := by
  have h7 := Blk.set_ (Blk.set_ (Blk.set_ (Blk.set_ (Blk.set_ (Blk.set_ (Blk.set_ h 0 (.int .i64 pt.k)) 1 (.string pt.tx)) 2 (.string pt.nm)) 3 (.string pt.ty)) 4 (.string pt.st)) 5 (.int .i64 pt.off)) 6 cv
  have he : ((((((((pt0.cells cv0).toArray.setIfInBounds 0 (.int .i64 pt.k)).setIfInBounds 1 (.string pt.tx)).setIfInBounds 2 (.string pt.nm)).setIfInBounds 3 (.string pt.ty)).setIfInBounds 4 (.string pt.st)).setIfInBounds 5 (.int .i64 pt.off)).setIfInBounds 6 cv) = (pt.cells cv).toArray := by simp [PT.cells]
  rw [he] at h7
  exact h7
theorem storeP_keep (w : World) (b : Nat) (pt : PT) (cv : Value) : Keep [b] w (storeP w b pt cv) :=
  (((((((Keep.refl [b] w).setCell (p := ⟨b, 0, none⟩) (.inl (by simp)) _).setCell (p := ⟨b, 1, none⟩) (.inl (by simp)) _).setCell (p := ⟨b, 2, none⟩) (.inl (by simp)) _).setCell (p := ⟨b, 3, none⟩) (.inl (by simp)) _).setCell (p := ⟨b, 4, none⟩) (.inl (by simp)) _).setCell (p := ⟨b, 5, none⟩) (.inl (by simp)) _).setCell (p := ⟨b, 6, none⟩) (.inl (by simp)) _

set_option maxRecDepth 100000 in
set_option maxHeartbeats 8000000 in
/-- argument, where a name stands alone. -/
theorem arg_bare {B f : Nat} (w : World) (g : Nat) (s : ByteArray) (p n d : Nat) (v : Value) (hl : List Bool) (hE : EnvM B w) (hBg : B ≤ g) (h : Rr w g s p n d v) (hH : Hs B w v hl) (hp : p < s.size) (hs : s.size ≤ 1000000000) (hn : n ≤ 1024)
    (nm : ByteArray) (p1 : Nat) (hnm : nameS s (p + 1) = .ok nm p1) (h125 : byt s (skip s p1) = 125) :
    Calls Tryz.prog 69 #[.pointer (some ⟨g, 0, none⟩)] w (APost f w B g s p d v hl (.ok (nameP 3 nm ⟨#[]⟩ ⟨#[]⟩) (skip s p1 + 1) n)) := by
  have HE := Lib.hid hE
  have HR := Lib.hid h
  have HH := Lib.hid hH
  obtain ⟨c0, c1, c2, c3, c4, f1, f2, f3, f4⟩ := h.cells
  have hgl := h.lt
  have hp1 := nameS_ge hnm
  have hk1 := skip_ge s p1
  have hk2 : skip s p1 < s.size := byt_lt (by omega)
  have hvg : Hid (∀ x ∈ v.ownBlock.toList, x ≠ g) := fun x hx => by rintro rfl; exact own_blk_ne hH h (by decide) (by simpa using hx)
  have hsg : signS s 125 (skip s p1) = .ok () (skip s p1 + 1) := by
    unfold signS
    rw [skip_at (by rw [h125]; rfl), if_pos h125]
  have HSG := Lib.hid hsg
  have HO := Lib.hid (show (byt s (skip s p1) == 125) = true by rw [h125]; rfl)
  have HNM := Lib.hid hnm
  clear h hH hE hnm h125 hsg
  go_enter Tryz.func69, Tryz.ntmps69
  go_wp2_with fail
  have hR1 : Rr ((w.setCell ⟨g, 1, none⟩ (.int .i64 ((p : Int) + 1))).alloc (.cells #[.int .i64 0, .string ⟨#[]⟩, .string ⟨#[]⟩, .string ⟨#[]⟩, .string ⟨#[]⟩, .int .i64 0, .slice none 0 0] 47)) g s (p + 1) n d v := Blk.alloc (HR.out.setAt (p + 1) _ (by omega)) _
  have hB1 : Blk ((w.setCell ⟨g, 1, none⟩ (.int .i64 ((p : Int) + 1))).alloc (.cells #[.int .i64 0, .string ⟨#[]⟩, .string ⟨#[]⟩, .string ⟨#[]⟩, .string ⟨#[]⟩, .int .i64 0, .slice none 0 0] 47)) w.heap.size 47 ((nameP 0 ⟨#[]⟩ ⟨#[]⟩ ⟨#[]⟩).cells (.slice none 0 0)).toArray := Blk.new' _ _ _ _ (by simp [World.setCell])
  have hK1 : Keep [g] w ((w.setCell ⟨g, 1, none⟩ (.int .i64 ((p : Int) + 1))).alloc (.cells #[.int .i64 0, .string ⟨#[]⟩, .string ⟨#[]⟩, .string ⟨#[]⟩, .string ⟨#[]⟩, .int .i64 0, .slice none 0 0] 47)) := ((Keep.refl [g] w).setCell (p := ⟨g, 1, none⟩) (.inl (by simp)) _).alloc _
  generalize (w.setCell ⟨g, 1, none⟩ (.int .i64 ((p : Int) + 1))).alloc (.cells #[.int .i64 0, .string ⟨#[]⟩, .string ⟨#[]⟩, .string ⟨#[]⟩, .string ⟨#[]⟩, .int .i64 0, .slice none 0 0] 47) = W1 at *
  obtain ⟨rb, hrb⟩ : ∃ rb, w.heap.size = rb := ⟨_, rfl⟩
  rw [hrb] at hB1 hgl ⊢
  have HRB := Lib.hid hrb
  have HN1 := Lib.hid (name_any W1 g s (p + 1) n d v hR1 (by omega) (by omega))
  rw [HNM.out] at HN1
  have HB1 := Lib.hid hB1
  have HK1 := Lib.hid hK1
  clear hR1 hB1 hK1 c0 c1 c2 c3 c4 f1 f2 f3 f4 hrb
  refine HN1.out.mono ?_
  rintro x W2 ⟨rfl, hR2, hk2'⟩
  have HK2 := Lib.hid (HK1.out.same hk2')
  have HB2 := Lib.hid (HB1.out.keep hk2' (by simp; omega))
  have hrb2 : rb < W2.heap.size := HB2.out.lt
  have HR2 := Lib.hid hR2
  clear hR2 hk2' HN1
  go_wp2_with fail
  have hR3 : Rr (W2.alloc (.cells #[.int .i64 3, .string ⟨#[]⟩, .string nm, .string ⟨#[]⟩, .string ⟨#[]⟩, .int .i64 0, .slice none 0 0] 47)) g s p1 n d v := Blk.alloc HR2.out _
  have hP3 : Blk (W2.alloc (.cells #[.int .i64 3, .string ⟨#[]⟩, .string nm, .string ⟨#[]⟩, .string ⟨#[]⟩, .int .i64 0, .slice none 0 0] 47)) W2.heap.size 47 ((nameP 3 nm ⟨#[]⟩ ⟨#[]⟩).cells (.slice none 0 0)).toArray := Blk.new _ _ _
  have hB3 : Blk (W2.alloc (.cells #[.int .i64 3, .string ⟨#[]⟩, .string nm, .string ⟨#[]⟩, .string ⟨#[]⟩, .int .i64 0, .slice none 0 0] 47)) rb 47 ((nameP 0 ⟨#[]⟩ ⟨#[]⟩ ⟨#[]⟩).cells (.slice none 0 0)).toArray := Blk.alloc HB2.out _
  have hK3 : Keep [g] w (W2.alloc (.cells #[.int .i64 3, .string ⟨#[]⟩, .string nm, .string ⟨#[]⟩, .string ⟨#[]⟩, .int .i64 0, .slice none 0 0] 47)) := HK2.out.alloc _
  generalize W2.alloc (.cells #[.int .i64 3, .string ⟨#[]⟩, .string nm, .string ⟨#[]⟩, .string ⟨#[]⟩, .int .i64 0, .slice none 0 0] 47) = W3 at *
  obtain ⟨pb, hpb⟩ : ∃ pb, W2.heap.size = pb := ⟨_, rfl⟩
  rw [hpb] at hP3 hrb2 ⊢
  have hzw : rb ≤ pb := by omega
  have HP3 := Lib.hid hP3
  have HB3 := Lib.hid hB3
  have HK3 := Lib.hid hK3
  have HR3 := Lib.hid hR3
  clear hR3 hP3 hB3 hK3 HK2 HB2 HR2 HK1 HB1 hpb
  refine (blanks_any W3 g s p1 n d v HR3.out hp1.2 (by omega)).mono ?_
  rintro x W4 ⟨rfl, hR4, hk4⟩
  generalize skip s p1 = q at *
  have HR4 := Lib.hid hR4
  have HK34 := Lib.hid hk4
  clear hR4 hk4
  go_wp2_with fail
  refine (on_any W4 g s q n d v 125 HR4.out (by omega)).mono ?_
  rintro x W5 ⟨rfl, k5, hW5⟩
  rw [HO.out]
  have HR5 : Hid (Rr W5 g s q n d v) := by unfold Hid; rw [hW5]; exact HR4.out.drewN _
  have HK35 : Hid (Keep [g] W3 W5) := by unfold Hid; rw [hW5]; exact HK34.out.drewN _
  clear hW5
  have HS5 := Lib.hid (sign_any W5 g s q n d v 125 HR5.out (by omega) (by omega) (by omega))
  rw [HSG.out] at HS5
  go_wp2_with (go_at_call 96; refine HS5.out.mono ?_; rintro x W6 ⟨rfl, hR6, hk6⟩; have hk36 := HK35.out.same hk6; have hP6 := HP3.out.keep hk36 (by simp; omega); have hB6 := HB3.out.keep hk36 (by simp; omega); obtain ⟨a0, a1, a2, a3, a4, a5, a6, az⟩ := part_all hP6; obtain ⟨b0, b1, b2, b3, b4, b5, b6, bz⟩ := part_all hB6; have HP6 := Lib.hid hP6; have HB6 := Lib.hid hB6; have HR6 := Lib.hid hR6; have HK6 := Lib.hid (HK3.out.same hk36); clear hP6 hB6 hR6 hk6 hk36)
  have HB7 := Lib.hid (storeP_blk HB6.out (nameP 3 nm ⟨#[]⟩ ⟨#[]⟩) (.slice none 0 0))
  have HK7 := Lib.hid (storeP_keep W6 rb (nameP 3 nm ⟨#[]⟩ ⟨#[]⟩) (.slice none 0 0))
  change bodyPost Tryz.prog _ _ _ _ (storeP W6 rb (nameP 3 nm ⟨#[]⟩ ⟨#[]⟩) (.slice none 0 0))
  generalize storeP W6 rb (nameP 3 nm ⟨#[]⟩ ⟨#[]⟩) (.slice none 0 0) = W7 at *
  obtain ⟨d0, d1, d2, d3, d4, d5, d6, _⟩ := part_all HB7.out
  have hvr : rb ∉ v.ownBlock.toList := fun hx => by
    have := (World.ownsRow.lt HH.out rb (by simpa using hx)).2
    have := HRB.out
    omega
  have hkk : Keep [g] w W7 := HK6.out.trans HK7.out (fun x hx => .inr (by simp at hx; subst hx; have := HRB.out; omega))
  refine bodyPost_ret (v := .agg ((nameP 3 nm ⟨#[]⟩ ⟨#[]⟩).cells (.slice none 0 0)).toArray) ?_ rfl ⟨.slice none 0 0, v, fun _ => False, rfl, LiesC.nil _ _ _, rfl, fun b hb => hb.elim, HR6.out.keep HK7.out (by simp; omega), HH.out.keep hkk (fun x hx hc => by simp at hc; exact hvg.out x hx hc), fun b hb => .inl hb, hkk.mono (fun x hx => .inl (by simp at hx; simp [hx])), by omega, by omega, hn, rfl⟩
  simp [results, Tryz.results69, go_sem, d0, d1, d2, d3, d4, d5, d6, PT.cells]
end Go.Proofs.YtjldgcpmdcoejaaGreatDoor
