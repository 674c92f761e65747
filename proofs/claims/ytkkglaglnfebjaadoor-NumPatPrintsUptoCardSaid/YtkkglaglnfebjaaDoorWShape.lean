/- Walks: the reference's shape. -/
import Derived.Test.YtkkglaglnfebjaaDoorWRPut
import Derived.Test.YtkkglaglnfebjaaDoorWPrint
namespace Go.Proofs.YtkkglaglnfebjaaDoor
open Go.RowKit Go.IntWalk

def dig1 (mi : Int) (k : Nat) : List UInt8 := if mi < (k : Int) then [35] else [48]
/-- A comma stands behind digit k. -/
def comB (g g2 : Int) (k : Nat) : Prop := 0 < g ∧ ((k : Int) = g + 1 ∨ g2 ≠ g ∧ (k : Int) = g + g2 + 1)
instance (g g2 : Int) (k : Nat) : Decidable (comB g g2 k) := by unfold comB; exact inferInstance
def tailD (cs : List Int) (mi : Int) : Nat → List UInt8
  | 0 => []
  | k + 1 => dig1 mi (k + 1) ++ digitsF cs mi k
def GW (g g2 : Int) : Prop := g = 0 ∧ g2 = 0 ∨ 1 ≤ g ∧ g ≤ 63 ∧ 1 ≤ g2 ∧ g2 ≤ 63 ∧ (g = g2 ∨ g + g2 < 64)
theorem commas_mem (g g2 : Int) (h : GW g g2) (x : Int) : (commasL g g2).contains x = true ↔ 0 < g ∧ (x = g ∨ g2 ≠ g ∧ x = g + g2) := by
  unfold commasL comma1
  by_cases h1 : 0 < g
  · by_cases h2 : g2 = g
    · simp [h1, h2]
    · simp [h1, h2]
  · have h3 : g = 0 ∧ g2 = 0 := by unfold GW at h; omega
    obtain ⟨rfl, rfl⟩ := h3
    simp
theorem tailD_step (g g2 mi : Int) (h : GW g g2) (k : Nat) : tailD (commasL g g2) mi (k + 1) = dig1 mi (k + 1) ++ ((if comB g g2 (k + 1) then [44] else []) ++ tailD (commasL g g2) mi k) := by
  have h' := h
  unfold GW at h'
  cases k with
  | zero =>
    have hn : ¬ comB g g2 (0 + 1) := by unfold comB; omega
    rw [if_neg hn]
    rfl
  | succ k =>
    have hm := commas_mem g g2 h ((k : Int) + 1)
    by_cases hc : (commasL g g2).contains ((k : Int) + 1) = true
    · have h2 : comB g g2 (k + 1 + 1) := by unfold comB; have := hm.1 hc; omega
      rw [if_pos h2]
      simp only [tailD, digitsF, hc, if_true, dig1, List.append_assoc]
      rfl
    · have h2 : ¬ comB g g2 (k + 1 + 1) := by unfold comB; intro hc2; exact hc (hm.2 (by omega))
      rw [if_neg h2]
      simp only [tailD, digitsF, if_neg hc, dig1, List.nil_append]
      rfl
theorem tailD_start (g g2 mi : Int) (h : GW g g2) (n : Nat) (hn : 0 < g → g < (n : Int) ∧ (g2 ≠ g → g + g2 < (n : Int))) : digitsF (commasL g g2) mi n = tailD (commasL g g2) mi n := by
  have h' := h
  unfold GW at h'
  cases n with
  | zero => rfl
  | succ k =>
    have hm := commas_mem g g2 h ((k : Int) + 1)
    have hc : ¬ (commasL g g2).contains ((k : Int) + 1) = true := fun hc => by have := hm.1 hc; have := hn this.1; omega
    simp only [tailD, digitsF, if_neg hc, List.nil_append, dig1]
    rfl
/-- How many digits the reference writes. -/
theorem digitsN_ways (p : PatD) (h : GW p.g p.g2) : digitsN p = if 0 < p.g then (if p.g2 ≠ p.g then max (max p.mi (p.g + 1)) (p.g + p.g2 + 1) else max p.mi (p.g + 1)) else p.mi := by
  unfold GW at h
  unfold digitsN digitsM commasL comma1
  by_cases h1 : 0 < p.g
  · by_cases h2 : p.g2 = p.g
    · simp [h1, h2]
    · simp [h1, h2]
      omega
  · have h3 : p.g = 0 ∧ p.g2 = 0 := by omega
    simp [h3]
theorem digitsN_le (p : PatD) (h : GW p.g p.g2) (h1 : 1 ≤ p.mi) (h2 : p.mi ≤ 64) : 1 ≤ digitsN p ∧ digitsN p ≤ 64 ∧ (0 < p.g → p.g < digitsN p ∧ (p.g2 ≠ p.g → p.g + p.g2 < digitsN p)) := by
  rw [digitsN_ways p h]
  unfold GW at h
  by_cases h3 : 0 < p.g
  · by_cases h4 : p.g2 = p.g
    · rw [if_pos h3, if_neg (fun hc => hc h4)]
      exact ⟨by omega, by omega, fun _ => ⟨by omega, fun hc => absurd h4 hc⟩⟩
    · rw [if_pos h3, if_pos h4]; omega
  · rw [if_neg h3]; omega
theorem rep_size (n : Nat) (x : UInt8) : (⟨Array.replicate n x⟩ : ByteArray).size = n := Array.size_replicate
theorem frac_text (p : PatD) (y : ByteArray) (h : 0 < p.xf) : ((y ++ ((⟨#[46]⟩ : ByteArray) ++ ⟨Array.replicate p.mf.toNat 48⟩ ++ ⟨Array.replicate (p.xf - p.mf).toNat 35⟩)).data.toList : List UInt8) = y.data.toList ++ fracL p.mf p.xf := by
  rw [cat_list, cat_list, cat_list, fracL, if_pos h, Array.toList_replicate, Array.toList_replicate]
set_option maxRecDepth 100000 in
set_option maxHeartbeats 2000000 in
theorem shape_any (w : World) (v1 v2 v3 v4 : Value) (p : PatD) (hr : rightB p = true) (hp : RdP w v1 v2 v3 v4 p) :
    Calls Tryd.prog 52 #[patV v1 v2 v3 v4 p] w fun e w' => e = .returned (.string ⟨(shapeL p).toArray⟩) ∧ Keep [] w w' := by
  obtain ⟨⟨a1, a2, a3, a4, a5, a6⟩, hg⟩ := right_nums p hr
  have HG : Hid (GW p.g p.g2) := hg
  obtain ⟨b1, b2, b3⟩ := digitsN_le p hg a1 a2
  obtain ⟨n, hn⟩ := Int.eq_ofNat_of_zero_le (show 0 ≤ digitsN p by omega)
  have hnw := digitsN_ways p hg
  rw [hn] at b1 b2 b3 hnw
  have HNW := Lib.hid hnw
  obtain ⟨R, hR⟩ : ∃ R, digitsF (commasL p.g p.g2) p.mi n = R := ⟨_, rfl⟩
  have HR : Hid (tailD (commasL p.g p.g2) p.mi n = R) := by unfold Hid; rw [← hR, tailD_start p.g p.g2 p.mi hg n b3]
  have HSh : Hid (shapeL p = R ++ fracL p.mf p.xf) := by unfold Hid; rw [← hR]; unfold shapeL; rw [hn]; rfl
  have HB0 := Lib.hid (PatAt.new w v1 v2 v3 v4 p)
  obtain ⟨A1, k1, rfl, -⟩ := hp.pre
  obtain ⟨A2, k2, rfl, -⟩ := hp.suf
  obtain ⟨A3, k3, rfl, -⟩ := hp.npre
  obtain ⟨A4, k4, rfl, -⟩ := hp.nsuf
  clear hp hr hR hn hnw b3
  unfold boxP at HB0
  simp only [patV]
  have hways : (decide (0 < p.g) = false ∧ p.g = 0 ∧ p.g2 = 0) ∨ (decide (0 < p.g) = true ∧ (p.g2 != p.g) = false ∧ 0 < p.g ∧ p.g2 = p.g) ∨ (decide (0 < p.g) = true ∧ (p.g2 != p.g) = true ∧ 0 < p.g ∧ p.g2 ≠ p.g) := by
    by_cases h1 : 0 < p.g
    · by_cases h2 : p.g2 = p.g
      · exact .inr (.inl ⟨decide_eq_true h1, by rw [bne_eq_false_iff_eq]; exact h2, h1, h2⟩)
      · exact .inr (.inr ⟨decide_eq_true h1, by rw [bne_iff_ne]; exact h2, h1, h2⟩)
    · exact .inl ⟨decide_eq_false h1, by omega, by omega⟩
  have g1 : 0 ≤ p.g := by omega
  have g2 : p.g ≤ 63 := by omega
  have g3 : 0 ≤ p.g2 := by omega
  have g4 : p.g2 ≤ 63 := by omega
  clear hg
  rcases hways with ⟨t1, h1⟩ | ⟨t1, t2, h1⟩ | ⟨t1, t2, h1⟩
  all_goals
    have H1 := Lib.hid h1
    clear h1
    go_enter Tryd.func52, Tryd.ntmps52
    go_wp2
    go_loopg [3, 5] n (fun k s3 s5 wx => ∃ y : ByteArray, s3 = .string y ∧ s5 = .int .i64 k ∧ y.size + 2 * k ≤ 130 ∧ y.data.toList ++ tailD (commasL p.g p.g2) p.mi k = R ∧ PatAt wx w.heap.size (.slice A1 p.pre.length k1) (.slice A2 p.suf.length k2) (.slice A3 p.npre.length k3) (.slice A4 p.nsuf.length k4) p ∧ Keep [] w wx)
    case atStart =>
      refine ⟨⟨#[]⟩, rfl, ?_, by show 0 + 2 * n ≤ 130; omega, HR.out, HB0.out, (Keep.refl _ _).alloc _⟩
      have h1 := HNW.out
      have h2 := H1.out
      congr 1
      first
        | (rw [if_pos (by omega), if_pos (by omega)] at h1; omega)
        | (rw [if_pos (by omega), if_neg (by omega)] at h1; omega)
        | (rw [if_neg (by omega)] at h1; omega)
    case round =>
      obtain ⟨y, rfl, rfl, hy, hq, hP, hK⟩ := hrel
      have HQ := Lib.hid hq
      have HP := Lib.hid hP
      have HK := Lib.hid hK
      obtain ⟨p0, p1, p2, p3, p4, p5, p6, p7, p8, p9, pf, pz⟩ := hP.all
      clear hq hP hK
      have HPl : ∀ x : ByteArray, x.size ≤ 1000 → Hid (∀ (W : World) (z : ByteArray), z.size ≤ 300 → (Op.stringOp .add x z).run Tryd.prog W = .ok (.string (x ++ z)) W) := fun x hx W z hz => run_string_add_sum W _ _ (by omega)
      cases gk with
      | zero =>
        have HY : Hid (y.data.toList = R) := by unfold Hid; rw [← HQ.out]; simp [tailD]
        by_cases hx : 0 < p.xf
        · have hR48 : ∀ W, Hid (Calls Tryd.prog 48 #[.string ⟨#[48]⟩, .int .i64 p.mf] W fun e w' => e = .returned (.string ⟨(List.replicate p.mf.toNat 48).toArray⟩) ∧ Below W.heap.size W w') := fun W => rep_one 48 p.mf (by omega) (by omega) W
          have hR35 : ∀ W, Hid (Calls Tryd.prog 48 #[.string ⟨#[35]⟩, .int .i64 (p.xf - p.mf)] W fun e w' => e = .returned (.string ⟨(List.replicate (p.xf - p.mf).toNat 35).toArray⟩) ∧ Below W.heap.size W w') := fun W => rep_one 35 (p.xf - p.mf) (by omega) (by omega) W
          have s1 : IntKind.i64.wrap (p.xf - p.mf) = p.xf - p.mf := IntWalk.i64_in _ (by omega)
          have hA1 : ∀ W, (Op.stringOp .add ⟨#[46]⟩ ⟨Array.replicate p.mf.toNat 48⟩).run Tryd.prog W = .ok (.string ((⟨#[46]⟩ : ByteArray) ++ ⟨Array.replicate p.mf.toNat 48⟩)) W := fun W => run_string_add_sum W _ _ (by rw [rep_size]; show 1 + p.mf.toNat ≤ _; omega)
          have hA2 : ∀ W, (Op.stringOp .add ((⟨#[46]⟩ : ByteArray) ++ ⟨Array.replicate p.mf.toNat 48⟩) ⟨Array.replicate (p.xf - p.mf).toNat 35⟩).run Tryd.prog W = .ok (.string ((⟨#[46]⟩ : ByteArray) ++ ⟨Array.replicate p.mf.toNat 48⟩ ++ ⟨Array.replicate (p.xf - p.mf).toNat 35⟩)) W := fun W => run_string_add_sum W _ _ (by rw [ByteArray.size_append, rep_size, rep_size]; show 1 + p.mf.toNat + (p.xf - p.mf).toNat ≤ _; omega)
          have hA3 : ∀ W, (Op.stringOp .add y ((⟨#[46]⟩ : ByteArray) ++ ⟨Array.replicate p.mf.toNat 48⟩ ++ ⟨Array.replicate (p.xf - p.mf).toNat 35⟩)).run Tryd.prog W = .ok (.string (y ++ ((⟨#[46]⟩ : ByteArray) ++ ⟨Array.replicate p.mf.toNat 48⟩ ++ ⟨Array.replicate (p.xf - p.mf).toNat 35⟩))) W := fun W => run_string_add_sum W _ _ (by rw [ByteArray.size_append, ByteArray.size_append, rep_size, rep_size]; show y.size + (1 + p.mf.toNat + (p.xf - p.mf).toNat) ≤ _; omega)
          have HT : Hid (y ++ ((⟨#[46]⟩ : ByteArray) ++ ⟨Array.replicate p.mf.toNat 48⟩ ++ ⟨Array.replicate (p.xf - p.mf).toNat 35⟩) = ⟨(shapeL p).toArray⟩) := list_string _ _ (by rw [frac_text p y hx, HY.out, HSh.out])
          clear HPl
          go_upto_region 16 with fail
          go_region_held3 (fun w' => w'.cell? ⟨w.heap.size, 6, none⟩ = some (.int .i64 p.mf) ∧ w'.cell? ⟨w.heap.size, 7, none⟩ = some (.int .i64 p.xf)) (first | exact ⟨p6, p7⟩ | exact ⟨k6, k7⟩ | exact ⟨j6, j7⟩) (first | (go_at_call_of 48 (Value.string ⟨#[48]⟩); refine (hR48 _).out.mono ?_; rintro e w1 ⟨rfl, hb1⟩; have k6 := (hb1.cell (p := ⟨w.heap.size, 6, none⟩) pz).trans p6; have k7 := (hb1.cell (p := ⟨w.heap.size, 7, none⟩) pz).trans p7; have HK1 := Lib.hid (HK.out.drew.nil (Keep.of_below hb1)); have hz1 := Nat.lt_of_lt_of_le pz hb1.size; clear hb1) | (go_at_call_of 48 (Value.string ⟨#[35]⟩); refine (hR35 _).out.mono ?_; rintro e w2 ⟨rfl, hb2⟩; have j6 := (hb2.cell (p := ⟨w.heap.size, 6, none⟩) hz1).trans k6; have j7 := (hb2.cell (p := ⟨w.heap.size, 7, none⟩) hz1).trans k7; have HK2 := Lib.hid (HK1.out.nil (Keep.of_below hb2)); clear hb2))
          all_goals
            go_wp2
            go_ret
            exact ⟨by rw [← HT.out]; rfl, HK2.out⟩
        · have HG2 : Hid (y = ⟨(shapeL p).toArray⟩) := list_string _ _ (by rw [HSh.out, fracL, if_neg hx, List.append_nil]; exact HY.out)
          clear HPl
          go_wp2
          go_ret
          exact ⟨by rw [← HG2.out]; rfl, HK.out⟩
      | succ k =>
        have hp0 := (HPl y (by omega)).out
        have hp1 := (HPl (y ++ ⟨#[48]⟩) (by rw [ByteArray.size_append]; show y.size + 1 ≤ _; omega)).out
        have hp2 := (HPl (y ++ ⟨#[35]⟩) (by rw [ByteArray.size_append]; show y.size + 1 ≤ _; omega)).out
        clear HPl
        go_wp2
        all_goals
          go_roundg k
          case measure => omega
          case rel =>
            refine ⟨_, rfl, by go_num, ?_, ?_, HP.out, HK.out⟩
            · first
                | (rw [ByteArray.size_append, ByteArray.size_append]; show (y.size + 1) + 1 + 2 * k ≤ 130; omega)
                | (rw [ByteArray.size_append]; show y.size + 1 + 2 * k ≤ 130; omega)
            · rw [← HQ.out, tailD_step p.g p.g2 p.mi HG.out k]
              have h2 := H1.out
              have h3 := HG.out
              unfold GW at h3
              try simp only [beq_iff_eq, beq_eq_false_iff_ne, bne_iff_ne, bne_eq_false_iff_eq, ne_eq] at *
              first
                | (rw [cat_list, cat_list, show dig1 p.mi (k + 1) = [48] from if_neg (by omega), if_pos (show comB p.g p.g2 (k + 1) from by unfold comB; omega)]; simp only [List.append_assoc])
                | (rw [cat_list, cat_list, show dig1 p.mi (k + 1) = [35] from if_pos (by omega), if_pos (show comB p.g p.g2 (k + 1) from by unfold comB; omega)]; simp only [List.append_assoc])
                | (rw [cat_list, show dig1 p.mi (k + 1) = [48] from if_neg (by omega), if_neg (show ¬ comB p.g p.g2 (k + 1) from by unfold comB; omega)]; simp only [List.append_assoc, List.nil_append])
                | (rw [cat_list, show dig1 p.mi (k + 1) = [35] from if_pos (by omega), if_neg (show ¬ comB p.g p.g2 (k + 1) from by unfold comB; omega)]; simp only [List.append_assoc, List.nil_append])
end Go.Proofs.YtkkglaglnfebjaaDoor
