/- Walks: the law's spoil. -/
import Derived.Test.YtkkglaglnfebjaaDoorWLBelow
namespace Go.Proofs.YtkkglaglnfebjaaDoor
open Go.RowKit Go.IntWalk

/-- A slice whose block, from B on, may be written over. -/
structure SpOK (B : Nat) (w : World) (A : Option Addr) (n c : Nat) : Prop where
  nc : n ≤ c
  cm : c ≤ 9223372036854775807
  no : A = none → n = 0
  blk : BlkO B w A n
theorem OwnA.spOK {w : World} {B C : Nat} {v : Value} {l : List Aff} (h : OwnA w C v l) (hB : B ≤ C) : ∃ A c, v = .slice A l.length c ∧ SpOK B w A l.length c := by
  obtain ⟨A, cap, h1, h2, h3, h4, h5⟩ := h.blkO
  unfold maxLen at h3
  exact ⟨A, cap, h1, h2, by omega, h4, fun a ha => by obtain ⟨g, cs, e, hg, hb, hs⟩ := h5 a ha; exact ⟨g, cs, e, by omega, hb, hs⟩⟩
theorem SpOK.keep {B : Nat} {w w' : World} {A : Option Addr} {n c : Nat} (h : SpOK B w A n c) (hk : Keep [] w w') : SpOK B w' A n c :=
  ⟨h.nc, h.cm, h.no, fun a ha => by obtain ⟨g, cs, e, hg, hb, hs⟩ := h.blk a ha; exact ⟨g, cs, e, hg, hb.keep hk (by simp), hs⟩⟩
theorem SpOK.set {B : Nat} {w : World} {A : Option Addr} {n c : Nat} (h : SpOK B w A n c) (g i : Nat) (v : Value) : SpOK B (w.setCell ⟨g, i, none⟩ v) A n c := ⟨h.nc, h.cm, h.no, h.blk.set g i v⟩
structure SpW (B : Nat) (w : World) (n : Nat) (A1 A2 A3 A4 : Option Addr) (n1 n2 n3 n4 k1 k2 k3 k4 : Nat) (wx : World) : Prop where
  row : Blk wx (n + 1) 23 #[.slice A1 n1 k1, .slice A2 n2 k2, .slice A3 n3 k3, .slice A4 n4 k4]
  s1 : SpOK B wx A1 n1 k1
  s2 : SpOK B wx A2 n2 k2
  s3 : SpOK B wx A3 n3 k3
  s4 : SpOK B wx A4 n4 k4
  kp : Below B w wx
section
variable {B : Nat} {w wx : World} {n : Nat} {A1 A2 A3 A4 : Option Addr} {n1 n2 n3 n4 k1 k2 k3 k4 : Nat}
theorem SpW.at_ (h : SpW B w n A1 A2 A3 A4 n1 n2 n3 n4 k1 k2 k3 k4 wx) (m : Nat) (hm : m < 4) : ∃ A j c, wx.cell? ⟨n + 1, m, none⟩ = some (.slice A j c) ∧ SpOK B wx A j c := by
  match m, hm with
  | 0, _ => exact ⟨_, _, _, h.row.cell_eq rfl, h.s1⟩
  | 1, _ => exact ⟨_, _, _, h.row.cell_eq rfl, h.s2⟩
  | 2, _ => exact ⟨_, _, _, h.row.cell_eq rfl, h.s3⟩
  | 3, _ => exact ⟨_, _, _, h.row.cell_eq rfl, h.s4⟩
theorem SpW.set (h : SpW B w n A1 A2 A3 A4 n1 n2 n3 n4 k1 k2 k3 k4 wx) (g i : Nat) (v : Value) (hB : B ≤ g) (hg : n + 1 ≠ g) : SpW B w n A1 A2 A3 A4 n1 n2 n3 n4 k1 k2 k3 k4 (wx.setCell ⟨g, i, none⟩ v) :=
  ⟨h.row.far hg v, h.s1.set g i v, h.s2.set g i v, h.s3.set g i v, h.s4.set g i v, h.kp.setCell hB _⟩
end
set_option maxRecDepth 100000 in
set_option maxHeartbeats 4000000 in
theorem spoil_any {B : Nat} (w : World) (hB : B ≤ w.heap.size) (A1 A2 A3 A4 : Option Addr) (n1 n2 n3 n4 k1 k2 k3 k4 : Nat) (p : PatD) (h1 : SpOK B w A1 n1 k1) (h2 : SpOK B w A2 n2 k2) (h3 : SpOK B w A3 n3 k3) (h4 : SpOK B w A4 n4 k4) :
    Calls Tryd.prog 14 #[patV (.slice A1 n1 k1) (.slice A2 n2 k2) (.slice A3 n3 k3) (.slice A4 n4 k4) p] w fun e w' => e = .returned (.tuple #[]) ∧ Below B w w' := by
  have H1 := Lib.hid h1
  have H2 := Lib.hid h2
  have H3 := Lib.hid h3
  have H4 := Lib.hid h4
  obtain ⟨n, hn⟩ : ∃ n, w.heap.size = n := ⟨_, rfl⟩
  have HN := Lib.hid hn
  have HBn : Hid (B ≤ n) := hn ▸ hB
  clear h1 h2 h3 h4 hn hB
  simp only [patV]
  go_enter Tryd.func14, Tryd.ntmps14
  go_wp2
  rw [HN.out]
  go_loopg [15] 4 (fun k s wx => ∃ m : Nat, m + k = 4 ∧ s = .int .i64 m ∧ SpW B w n A1 A2 A3 A4 n1 n2 n3 n4 k1 k2 k3 k4 wx)
  case atStart =>
    have hk := Keep.alloc (Keep.alloc (Keep.refl [] w) (.cells #[.slice A1 n1 k1, .slice A2 n2 k2, .bool p.neg, .slice A3 n3 k3, .slice A4 n4 k4, .int .i64 p.mi, .int .i64 p.mf, .int .i64 p.xf, .int .i64 p.g, .int .i64 p.g2] 25)) (.cells #[.slice A1 n1 k1, .slice A2 n2 k2, .slice A3 n3 k3, .slice A4 n4 k4] 23)
    exact ⟨0, rfl, rfl, Blk.new' _ _ _ _ (by simp [HN.out]), H1.out.keep hk, H2.out.keep hk, H3.out.keep hk, H4.out.keep hk, hk.below (fun _ h => by cases h) (by rw [HN.out]; exact HBn.out)⟩
  case round =>
    obtain ⟨m, hm, rfl, hS⟩ := hrel
    have Hm := Lib.hid hm
    have HS := Lib.hid hS
    have hm4 : m ≤ 4 := by omega
    by_cases hlt : m < 4
    · obtain ⟨A, j, c, e0, hO⟩ := hS.at_ m hlt
      have HNo := Lib.hid hO.no
      have hjc := hO.nc
      have hcm := hO.cm
      have HO := Lib.hid hO.blk
      clear hS hO hm
      obtain ⟨ok, hok⟩ : ∃ ok, gk = ok := ⟨_, rfl⟩
      go_wp2
      go_loopg [21] j (fun k s wx => ∃ i : Nat, i + k = j ∧ s = .int .i64 i ∧ SpW B w n A1 A2 A3 A4 n1 n2 n3 n4 k1 k2 k3 k4 wx ∧ BlkO B wx A j)
      case atStart => exact ⟨0, by omega, rfl, HS.out, HO.out⟩
      case round =>
        obtain ⟨i, hi, rfl, h2, h3⟩ := hrel
        have Hi := Lib.hid hi
        have H2' := Lib.hid h2
        have H3' := Lib.hid h3
        have hi4 : i ≤ j := by omega
        by_cases hlt' : i < j
        · obtain ⟨ad, rfl⟩ : ∃ ad, A = some ad := by
            cases A with
            | none => exact absurd (HNo.out rfl) (by omega)
            | some ad => exact ⟨ad, rfl⟩
          obtain ⟨gg, cs, rfl, hgB, hgb, hgs⟩ := h3 _ rfl
          have hne : n + 1 ≠ gg := Blk.ne_ h2.row hgb (by decide)
          obtain ⟨uc, e1⟩ : ∃ uc, wr.cell? ⟨gg, i * 3, none⟩ = some uc := ⟨_, hgb.cell_eq (Array.getElem?_eq_getElem (by omega))⟩
          obtain ⟨uc2, e2⟩ : ∃ uc, wr.cell? ⟨gg, i * 3 + 1, none⟩ = some uc := ⟨_, hgb.cell_eq (Array.getElem?_eq_getElem (by omega))⟩
          obtain ⟨uc3, e3⟩ : ∃ uc, wr.cell? ⟨gg, i * 3 + 2, none⟩ = some uc := ⟨_, hgb.cell_eq (Array.getElem?_eq_getElem (by omega))⟩
          have f1 := hgb.frozen (i * 3)
          have f2 := hgb.frozen (i * 3 + 1)
          have f3 := hgb.frozen (i * 3 + 2)
          clear h2 h3 hi hgb
          go_wp2
          go_roundg (gk - 1)
          case measure => have := Hi.out; omega
          case rel => exact ⟨i + 1, by have := Hi.out; omega, by go_num, ((H2'.out.set _ _ _ hgB hne).set _ _ _ hgB hne).set _ _ _ hgB hne, ((H3'.out.set _ _ _).set _ _ _).set _ _ _⟩
        · clear h2 h3 hi
          go_wp2
          go_roundg (ok - 1)
          case measure => have := Hm.out; omega
          case rel => exact ⟨m + 1, by have := Hm.out; omega, by go_num, H2'.out⟩
    · clear hS hm
      go_wp2
      go_end0
      exact ⟨rfl, HS.out.kp⟩
end Go.Proofs.YtkkglaglnfebjaaDoor
