/- Walks: numpat's within, fits. -/
import Derived.Test.YtkkglaglnfebjaaDoorWCheck
import Derived.Test.YtkkglaglnfebjaaDoorRA
import Derived.Deep.LoopGhost
import Derived.Deep.Light
namespace Go.Proofs.YtkkglaglnfebjaaDoor
open Go.RowKit

theorem bcell {W w1 : World} (hb : Below W.heap.size W w1) : (∀ b o, b < W.heap.size → w1.cell? ⟨b, o, none⟩ = W.cell? ⟨b, o, none⟩) ∧ (∀ b o, b < W.heap.size → w1.frozen? ⟨b, o, none⟩ = W.frozen? ⟨b, o, none⟩) :=
  ⟨fun b o h => hb.cell (p := ⟨b, o, none⟩) h, fun b o h => hb.frozen (p := ⟨b, o, none⟩) h⟩
theorem spotErr_iff (s : ByteArray) : spotErr s = 0 ↔ brk s < 0 := by unfold spotErr; split <;> simp_all
theorem spotErr_ok (s : ByteArray) (h : brk s < 0) : spotErr s = 0 := by unfold spotErr; rw [if_pos h]
theorem spotErr_no (s : ByteArray) (h : ¬ brk s < 0) : spotErr s = 6 := by unfold spotErr; rw [if_neg h]

/-- The pieces' texts are short enough to be looked at. -/
def AffSz (l : List Aff) : Prop := ∀ a ∈ l, a.t.size ≤ 9223372036854775000

set_option maxRecDepth 100000 in
set_option maxHeartbeats 1000000 in
theorem fits_any (w : World) (v : Value) (l : List Aff) (hl : RdA w v l) (hsz : AffSz l) :
    Calls Tryd.prog 55 #[v] w fun e w' => e = .returned (.bool (fitsS 0 l)) ∧ Keep [] w w' := by
  have HL := Lib.hid hl
  have HSz := Lib.hid hsz
  obtain ⟨A, cap, rfl, h1, h2, h3⟩ := hl
  have H3 := Lib.hid h3
  unfold maxLen at h2
  generalize hn : l.length = n at *
  have Hn := Lib.hid hn
  clear h3 hn hsz
  have hfd : ∀ (w : World) (x y : Value), (Instr.field 28 (.agg #[x, y]) 0).run Tryd.prog w = .ok x w := fun _ _ _ => by kernel_rfl
  go_enter Tryd.func55, Tryd.ntmps55
  go_wp2
  go_loopg [3, 9] n (fun k s i wr => ∃ (m : Nat) (ah : Int), m + k = n ∧ i = .int .i64 m ∧ s = .int .i64 ah ∧ fitsS ah (l.drop m) = fitsS 0 l ∧ Keep [] w wr)
  case atStart => exact ⟨0, 0, by omega, rfl, rfl, rfl, Keep.refl _ _⟩
  case round =>
    obtain ⟨m, ah, hm, rfl, rfl, hf, hk⟩ := hrel
    have HF := Lib.hid hf
    have HK := Lib.hid hk
    have hmn : m ≤ n := by omega
    have Hm := Lib.hid hm
    clear hf hk hm
    by_cases hlt : m < n
    · obtain ⟨a, ha⟩ : ∃ a, l[m]? = some a := ⟨_, List.getElem?_eq_getElem (by rw [Hn.out]; exact hlt)⟩
      have hd : l.drop m = a :: l.drop (m + 1) := by
        rw [List.drop_eq_getElem_cons (by rw [Hn.out]; exact hlt)]
        congr 1
        exact (List.getElem?_eq_some_iff.1 ha).2
      have HD : Hid (fitsS 0 l = (affOk a ah && fitsS a.k (l.drop (m + 1)))) := by rw [← HF.out, hd]; rfl
      obtain ⟨b, o, rfl, hb, hc⟩ := H3.out (by rintro rfl; simp at ha)
      have hcell : ∀ j u, j < 3 → a.cells[j]? = some u → wr.cell? ⟨b, o + (m * 3 + j), none⟩ = some u := fun j u hj hu =>
        (HK.out.cell (p := ⟨b, o + (m * 3 + j), none⟩) hb (by simp)).trans (hc _ u (by rw [affC_in l m a ha j hj]; exact hu))
      have c0 : wr.cell? ⟨b, o + m * 3, none⟩ = some (.int .i64 a.k) := hcell 0 _ (by omega) rfl
      have c1 : wr.cell? ⟨b, o + m * 3 + 1, none⟩ = some (.string a.t) := hcell 1 _ (by omega) rfl
      have c2 : wr.cell? ⟨b, o + m * 3 + 2, none⟩ = some (.int .i64 a.c) := hcell 2 _ (by omega) rfl
      have hts : a.t.size ≤ 9223372036854775000 := HSz.out a (List.mem_of_getElem? ha)
      clear hcell hc hd ha HL HF HSz
      obtain ⟨ka, ta, ca⟩ := a
      simp only at c0 c1 c2 HD hts
      have hmb : m + 1 ≤ n := hlt
      have HBT : Hid (spotErr ta = 0 ↔ brk ta < 0) := spotErr_iff ta
      have hC : ∀ W, Hid (Calls Tryd.prog 41 #[.string ta] W fun e w' => e = .returned (.agg #[.int .i64 (spotErr ta), .int .i64 (spotAt ta)]) ∧ Below W.heap.size W w') := fun W => check_any ta W hts
      clear hts
      go_wp2_with (go_at_call 41; refine (hC _).out.mono ?_; rintro e w' ⟨rfl, hbw⟩; obtain ⟨hc, hf⟩ := bcell hbw)
      all_goals first
        | (have key : affOk ⟨ka, ta, ca⟩ ah = false := by (have hbt := HBT.out; go_light; clear hfd hC c0 c1 c2 H3 HD HBT HK Hm Hn; (try clear hc hf hbw); grind [affOk])
           go_ret
           exact ⟨by rw [HD.out, key]; rfl, by first | exact HK.out.alloc _ | exact (HK.out.alloc _).nil (Keep.of_below hbw)⟩)
        | (have key : affOk ⟨ka, ta, ca⟩ ah = true := by (have hbt := HBT.out; go_light; clear hfd hC c0 c1 c2 H3 HD HBT HK Hm Hn; (try clear hc hf hbw); grind [affOk])
           go_roundg (n - (m + 1))
           case measure => have := Hm.out; omega
           case rel => exact ⟨m + 1, ka, by have := Hm.out; omega, by go_num, rfl, by rw [HD.out, key]; rfl, by first | exact HK.out.alloc _ | exact (HK.out.alloc _).nil (Keep.of_below hbw)⟩)
    · have HE : Hid (fitsS 0 l = true) := by
        have hnil : l.drop m = [] := List.drop_eq_nil_of_le (by rw [Hn.out]; omega)
        rw [← HF.out, hnil]; rfl
      clear HF
      go_wp2
      go_ret
      exact ⟨by rw [HE.out]; rfl, HK.out⟩
end Go.Proofs.YtkkglaglnfebjaaDoor
