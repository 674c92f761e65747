/- Walks: the reference's fits, Right. -/
import Derived.Test.YtkkglaglnfebjaaDoorWWakes
namespace Go.Proofs.YtkkglaglnfebjaaDoor
open Go.RowKit Go.IntWalk

/-- The kind of the piece ahead of place m. -/
def aheadOf (l : List Aff) : Nat → Int
  | 0 => 0
  | m + 1 => (l[m]?.map Aff.k).getD 0
set_option maxRecDepth 100000 in
set_option maxHeartbeats 2000000 in
theorem rfits_any (w : World) (v : Value) (l : List Aff) (hl : RdA w v l) (hsz : AffSz l) :
    Calls Tryd.prog 53 #[v] w fun e w' => e = .returned (.bool (fitsS 0 l)) ∧ Keep [] w w' := by
  have HSz := Lib.hid hsz
  obtain ⟨A, cap, rfl, h1, h2, h3⟩ := hl
  have H3 := Lib.hid h3
  unfold maxLen at h2
  generalize hn : l.length = n at *
  have Hn := Lib.hid hn
  clear h3 hn hsz
  go_enter Tryd.func53, Tryd.ntmps53
  go_wp2
  go_loopg [8] n (fun k i wr => ∃ (m : Nat), m + k = n ∧ i = .int .i64 m ∧ fitsS (aheadOf l m) (l.drop m) = fitsS 0 l ∧ Keep [] w wr)
  case atStart => exact ⟨0, by omega, rfl, rfl, Keep.refl _ _⟩
  case round =>
    obtain ⟨m, hm, rfl, hf, hk⟩ := hrel
    have HF := Lib.hid hf
    have HK := Lib.hid hk
    have hmn : m ≤ n := by omega
    have Hm := Lib.hid hm
    clear hf hk hm
    by_cases hlt : m < n
    · obtain ⟨a, ha⟩ : ∃ a, l[m]? = some a := ⟨_, List.getElem?_eq_getElem (by rw [Hn.out]; exact hlt)⟩
      have hd : l.drop m = a :: l.drop (m + 1) := by
        rw [List.drop_eq_getElem_cons (by rw [Hn.out]; exact hlt)]
        congr 1
        exact (List.getElem?_eq_some_iff.1 ha).2
      have hak : aheadOf l (m + 1) = a.k := by simp [aheadOf, ha]
      have HD : Hid (fitsS 0 l = (affOk a (aheadOf l m) && fitsS (aheadOf l (m + 1)) (l.drop (m + 1)))) := by rw [hak, ← HF.out, hd]; rfl
      obtain ⟨b, o, rfl, hb, hc⟩ := H3.out (by rintro rfl; simp at ha)
      have hcl : ∀ i q, l[i]? = some q → ∀ j u, j < 3 → q.cells[j]? = some u → wr.cell? ⟨b, o + (i * 3 + j), none⟩ = some u := fun i q hq j u hj hu =>
        (HK.out.cell (p := ⟨b, o + (i * 3 + j), none⟩) hb (by simp)).trans (hc _ u (by rw [affC_in l i q hq j hj]; exact hu))
      have c0 : wr.cell? ⟨b, o + m * 3, none⟩ = some (.int .i64 a.k) := hcl m a ha 0 _ (by omega) rfl
      have c1 : wr.cell? ⟨b, o + m * 3 + 1, none⟩ = some (.string a.t) := hcl m a ha 1 _ (by omega) rfl
      have c2 : wr.cell? ⟨b, o + m * 3 + 2, none⟩ = some (.int .i64 a.c) := hcl m a ha 2 _ (by omega) rfl
      have hts : a.t.size ≤ 9223372036854775000 := HSz.out a (List.mem_of_getElem? ha)
      have hbw : b < wr.heap.size := Nat.lt_of_lt_of_le hb HK.out.size
      have HCL := Lib.hid hcl
      clear hcl hc hd ha HF HSz hak hb
      obtain ⟨ka, ta, ca⟩ := a
      simp only at c0 c1 c2 HD hts
      have hmb : m + 1 ≤ n := hlt
      have hC : ∀ W, Hid (Calls Tryd.prog 97 #[.string ta] W fun e w' => e = .returned (.bool (decide (brk ta < 0))) ∧ W = w') := fun W => right02_any ta W (by omega)
      clear hts
      cases m with
      | zero =>
        simp only [Nat.zero_mul, Nat.add_zero] at c0 c1 c2
        go_wp2_with (go_at_call 97; refine (hC _).out.mono ?_; rintro e w' ⟨rfl, rfl⟩)
        all_goals first
          | (have key : affOk ⟨ka, ta, ca⟩ (aheadOf l 0) = false := by (go_light; clear hC c0 c1 c2 H3 HCL HD HK Hm Hn; grind [affOk, aheadOf])
             go_ret
             exact ⟨by rw [HD.out, key]; rfl, HK.out.alloc _⟩)
          | (have key : affOk ⟨ka, ta, ca⟩ (aheadOf l 0) = true := by (go_light; clear hC c0 c1 c2 H3 HCL HD HK Hm Hn; grind [affOk, aheadOf])
             go_roundg (n - 1)
             case measure => have := Hm.out; omega
             case rel => exact ⟨1, by have := Hm.out; omega, rfl, by rw [HD.out, key]; rfl, HK.out.alloc _⟩)
      | succ j =>
        obtain ⟨q, hq⟩ : ∃ q, l[j]? = some q := ⟨_, List.getElem?_eq_getElem (by rw [Hn.out]; omega)⟩
        have HA : Hid (aheadOf l (j + 1) = q.k) := by unfold Hid; simp [aheadOf, hq]
        have c3 : wr.cell? ⟨b, o + j * 3, none⟩ = some (.int .i64 q.k) := HCL.out j q hq 0 _ (by omega) rfl
        have hjn : j < n := by omega
        obtain ⟨kq, tq, cq⟩ := q
        rw [HA.out] at HD
        simp only at c3 HD HA
        clear hq HCL
        go_wp2_with (go_at_call 97; refine (hC _).out.mono ?_; rintro e w' ⟨rfl, rfl⟩)
        all_goals first
          | (have key : affOk ⟨ka, ta, ca⟩ kq = false := by (go_light; clear hC c0 c1 c2 c3 H3 HD HK Hm Hn HA; grind [affOk])
             go_ret
             exact ⟨by rw [HD.out, key]; rfl, HK.out.alloc _⟩)
          | (have key : affOk ⟨ka, ta, ca⟩ kq = true := by (go_light; clear hC c0 c1 c2 c3 H3 HD HK Hm Hn HA; grind [affOk])
             go_roundg (n - (j + 1 + 1))
             case measure => have := Hm.out; omega
             case rel => exact ⟨j + 1 + 1, by have := Hm.out; omega, by go_num, by rw [HD.out, key]; rfl, HK.out.alloc _⟩)
    · have HE : Hid (fitsS 0 l = true) := by
        have hnil : l.drop m = [] := List.drop_eq_nil_of_le (by rw [Hn.out]; omega)
        rw [← HF.out, hnil]; cases m <;> rfl
      clear HF
      go_wp2
      go_ret
      exact ⟨by rw [HE.out]; rfl, HK.out⟩
end Go.Proofs.YtkkglaglnfebjaaDoor
