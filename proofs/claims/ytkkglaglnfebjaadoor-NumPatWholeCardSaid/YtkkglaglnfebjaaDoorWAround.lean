/- Walks: numpat's around. -/
import Derived.Test.YtkkglaglnfebjaaDoorWQuoted
import Derived.Deep.Light
namespace Go.Proofs.YtkkglaglnfebjaaDoor
open Go.RowKit

theorem ofFn_getD (t : Array Value) (n : Nat) (h : t.size = n) : t = Array.ofFn (fun i : Fin n => t.getD i undef) := by
  apply Array.ext
  · simp [h]
  · intro i h1 h2
    simp [Array.getD, h1]
set_option maxRecDepth 100000 in
theorem frame129 (t : Array Value) (h : t.size = 129) : ∃ u : Nat → Value, t = #[u 0, u 1, u 2, u 3, u 4, u 5, u 6, u 7, u 8, u 9, u 10, u 11, u 12, u 13, u 14, u 15, u 16, u 17, u 18, u 19, u 20, u 21, u 22, u 23, u 24, u 25, u 26, u 27, u 28, u 29, u 30, u 31, u 32, u 33, u 34, u 35, u 36, u 37, u 38, u 39, u 40, u 41, u 42, u 43, u 44, u 45, u 46, u 47, u 48, u 49, u 50, u 51, u 52, u 53, u 54, u 55, u 56, u 57, u 58, u 59, u 60, u 61, u 62, u 63, u 64, u 65, u 66, u 67, u 68, u 69, u 70, u 71, u 72, u 73, u 74, u 75, u 76, u 77, u 78, u 79, u 80, u 81, u 82, u 83, u 84, u 85, u 86, u 87, u 88, u 89, u 90, u 91, u 92, u 93, u 94, u 95, u 96, u 97, u 98, u 99, u 100, u 101, u 102, u 103, u 104, u 105, u 106, u 107, u 108, u 109, u 110, u 111, u 112, u 113, u 114, u 115, u 116, u 117, u 118, u 119, u 120, u 121, u 122, u 123, u 124, u 125, u 126, u 127, u 128] := ⟨fun i => t.getD i undef, (ofFn_getD t 129 h).trans (by kernel_rfl)⟩

def APost (w : World) (g : Nat) (s : ByteArray) (p : Nat) (e ea : Int) : Except Nat (List Aff × Nat) → Ending → World → Prop
  | .ok (l, q), x, w' => ∃ v, x = .returned (.tuple #[v, .bool true]) ∧ OwnA w' w.heap.size v l ∧ Rd w' g s q e ea ∧ Keep [g] w w' ∧ p ≤ q ∧ q ≤ s.size ∧ AffIn l q
  | .error y, x, w' => x = .returned (.tuple #[.slice none 0 0, .bool false]) ∧ (∃ q, Rd w' g s q 260 y) ∧ Keep [g] w w'

/-- What holds at the label. -/
structure AJ (w0 : World) (g : Nat) (s : ByteArray) (p0 : Nat) (e ea : Int) (R : Except Nat (List Aff × Nat)) (a : Act) (w : World) : Prop where
  df : a.defers = []
  sz : a.tmps.size = 129
  at0 : a.tmps.getD 0 undef = .pointer (some ⟨g, 0, none⟩)
  ex : ∃ (p f : Nat) (l : List Aff), Rd w g s p e ea ∧ OwnA w w0.heap.size (a.tmps.getD 4 undef) l ∧ Keep [g] w0 w ∧ p0 ≤ p ∧ p ≤ s.size ∧ AffIn l p ∧ s.size < p + f ∧ aroundF s f p l = R

theorem AJ.next {w0 w1 w3 : World} {g : Nat} {s : ByteArray} {p0 p q f : Nat} {e ea : Int} {R : Except Nat (List Aff × Nat)} {a : Act} {v : Value} {l : List Aff} (h1 : a.defers = []) (h2 : a.tmps.size = 129) (h3 : a.tmps.getD 0 undef = .pointer (some ⟨g, 0, none⟩)) (h4 : a.tmps.getD 4 undef = v)
    (hR1 : Rd w1 g s p e ea) (hR : Rd w3 g s q e ea) (hO : OwnA w3 w0.heap.size v l) (hK : Keep [g] w0 w3) (hp : p0 ≤ p) (hpq : p < q) (hq : q ≤ s.size) (hA : AffIn l q) (hf : s.size < q + f) (hF : aroundF s f q l = R) :
    AJ w0 g s p0 e ea R a w3 ∧ s.size + 1 - posOf w3 g < s.size + 1 - posOf w1 g :=
  ⟨⟨h1, h2, h3, q, f, l, hR, h4 ▸ hO, hK, by omega, hq, hA, hf, hF⟩, by rw [hR.posOf, hR1.posOf]; omega⟩
theorem OwnA.setRd {w : World} {B g : Nat} {v : Value} {l : List Aff} (h : OwnA w B v l) (hg : g < B) (i : Nat) (u : Value) : OwnA (w.setCell ⟨g, i, none⟩ u) B v l :=
  h.keep (bs := [g]) ((Keep.refl _ _).setCell (.inl (by simp)) _) (fun x hx hc => by have := h.lt x hx; simp at hc; omega)
theorem Keep.setRd {w0 w : World} {g : Nat} (h : Keep [g] w0 w) (i : Nat) (u : Value) : Keep [g] w0 (w.setCell ⟨g, i, none⟩ u) := h.setCell (.inl (by simp)) u

set_option maxRecDepth 100000 in
set_option maxHeartbeats 4000000 in
theorem around_any {B : Nat} (w : World) (g : Nat) (s : ByteArray) (p0 f0 : Nat) (e ea : Int) (hE : Env B w) (h : Rd w g s p0 e ea) (hg : B ≤ g) (hs : s.size ≤ 100000000) (hp0 : p0 ≤ s.size) (hf0 : s.size < p0 + f0) :
    Calls Tryd.prog 90 #[.pointer (some ⟨g, 0, none⟩)] w (APost w g s p0 e ea (aroundF s f0 p0 [])) := by
  have H := Lib.hid h
  have hgl := h.lt
  clear h
  generalize hR : aroundF s f0 p0 [] = R
  go_enter Tryd.func90, Tryd.ntmps90
  go_wp2
  refine wp_scope_loop 0 (AJ w g s p0 e ea R) (fun _ w => s.size + 1 - posOf w g) rfl ?_ ?_
  · skip
    rintro ⟨t, df⟩ w1 hJ
    obtain ⟨hdf, hsz, h0, p, f, l, hR1, hO1, hK1, hp1, hp2, hA, hf, hF⟩ := hJ
    simp only at hdf hsz h0 hO1
    subst hdf
    obtain ⟨u, rfl⟩ := frame129 t hsz
    have hu0 : u 0 = .pointer (some ⟨g, 0, none⟩) := h0
    have hO1' : OwnA w1 w.heap.size (u 4) l := hO1
    clear h0 hO1 hsz
    rw [hu0]
    generalize u 4 = v at *
    clear hu0
    obtain ⟨f, rfl⟩ : ∃ f', f = f' + 1 := ⟨f - 1, by omega⟩
    have hE1 := hE.keep hK1 (fun x hx => by simp at hx; omega)
    have hgB : g < w.heap.size := hgl
    have hB1 := hK1.size
    have hll : l.length ≤ 1000000000000 := by have := hA.1; omega
    obtain ⟨c0, c1, c2, c3, f1, f2, f3⟩ := hR1.cells
    have HR1 := Lib.hid hR1
    have HO1 := Lib.hid hO1'
    have HK1 := Lib.hid hK1
    have HF := Lib.hid hF
    have HA := Lib.hid hA
    have HE := Lib.hid hE1
    clear hR1 hO1' hK1 hF hA hE1
    have hpe : p < s.size ∨ p = s.size := by omega
    rcases hpe with hps | rfl
    rotate_left
    · have HN : Hid (Calls Tryd.prog 115 #[.pointer (some ⟨g, 0, none⟩)] w1 fun z w' => z = .returned (.tuple #[.int .i32 (-1), .int .i64 0]) ∧ Keep [] w1 w') := next_end w1 g s _ e ea HR1.out (by omega) (Nat.le_refl _)
      go_wp2_with (go_at_call 115; refine HN.out.mono ?_; rintro y w2 ⟨rfl, k2⟩)
      have HF2 := Lib.hid (HF.out.symm.trans (aroundF_end (Nat.le_refl _)))
      simp only [Exit.jump]
      go_ret2
      rw [HF2.out]
      exact ⟨v, rfl, HO1.out.keep k2 (by simp), HR1.out.keep k2 (by simp), HK1.out.nil k2, hp1, hp2, HA.out⟩
    obtain ⟨x, n, hxn⟩ : ∃ x n, formD s p = (x, n) := ⟨_, _, rfl⟩
    have hw := formD_wide s p hps
    rw [hxn] at hw
    simp only at hw
    have HX := Lib.hid hxn
    have HN : Hid (Calls Tryd.prog 115 #[.pointer (some ⟨g, 0, none⟩)] w1 fun z w' => z = .returned (.tuple #[.int .i32 x, .int .i64 n]) ∧ Keep [] w1 w') := by
      have := next_in w1 g s p e ea HE.out HR1.out (by omega) hps
      rw [hxn] at this
      exact this
    clear hxn
    have hsn : ∀ x, x ∈ v.ownBlock.toList → w.heap.size ≤ x := HO1.out.lt
    go_wp2_with fail
    refine HN.out.mono ?_
    rintro y w2 ⟨rfl, k2⟩
    have HO2 := Lib.hid (HO1.out.keep k2 (by simp))
    have hR2 := HR1.out.keep k2 (by simp)
    have HK2 := Lib.hid (HK1.out.nil k2)
    have hB2 := Nat.le_trans hB1 k2.size
    clear c0 c1 c2 c3 f1 f2 f3 k2 HN
    obtain ⟨c0, c1, c2, c3, f1, f2, f3⟩ := hR2.cells
    have HR2 := Lib.hid hR2
    clear hR2
    by_cases hst : stopB x = true
    · have HF2 := Lib.hid (HF.out.symm.trans (aroundF_stop hps HX.out hst))
      have hx8 : x = -1 ∨ x = 35 ∨ x = 48 ∨ x = 44 ∨ x = 46 ∨ x = 59 ∨ x = 123 ∨ x = 125 := by simpa [stopB, or_assoc] using hst
      clear hst
      rcases hx8 with rfl | rfl | rfl | rfl | rfl | rfl | rfl | rfl
      all_goals
        go_wp2
        simp only [Exit.jump]
        go_ret2
        rw [HF2.out]
        exact ⟨v, rfl, HO2.out, HR2.out, HK2.out, hp1, hp2, HA.out⟩
    by_cases hsg : x = 37 ∨ x = 45 ∨ x = 43
    · obtain ⟨kd, hkd⟩ : ∃ kd : Int, x = 37 ∧ kd = 2 ∨ x = 45 ∧ kd = 3 ∨ x = 43 ∧ kd = 4 := by
        rcases hsg with h | h | h
        · exact ⟨2, .inl ⟨h, rfl⟩⟩
        · exact ⟨3, .inr (.inl ⟨h, rfl⟩)⟩
        · exact ⟨4, .inr (.inr ⟨h, rfl⟩)⟩
      have HF2 := Lib.hid ((aroundF_sign kd hps HX.out hkd).symm.trans HF.out)
      clear hsg hst
      rcases hkd with ⟨rfl, rfl⟩ | ⟨rfl, rfl⟩ | ⟨rfl, rfl⟩
      all_goals
        go_wp2_with (at_builtin; refine wpList_append_aff rfl _ _ rfl rfl HO2.out _ rfl ⟨_, ⟨#[]⟩, 0⟩ rfl hll hB2 ?_; intro v' w3 h3 k3; have hR3 := HR2.out.keep k3 (HO2.out.notin hgB); obtain ⟨d0, d1, d2, d3, g1, g2, g3⟩ := hR3.cells; have HR3 := Lib.hid hR3; have HO3 := Lib.hid h3; have HK3 := Lib.hid (HK2.out.trans k3 (fun x hx => .inr (HO2.out.lt x hx))); clear hR3 h3 k3)
        go_step3
        exact ⟨rfl, AJ.next (v := v') rfl rfl rfl rfl HR1.out (HR3.out.setAt (p + n) _ (by omega)) (HO3.out.setRd hgB _ _) (HK3.out.setRd _ _) hp1 (by omega) (by omega) (HA.out.push (by omega) _ (Nat.zero_le _) (by simp)) (by omega) HF2.out⟩
    by_cases h39 : x = 39
    · subst h39
      clear hst hsg
      have hq1 := aroundF_quote (f := f) (l := l) hps HX.out
      cases hqs : quotedS s (p + 1) with
      | none =>
        rw [hqs] at hq1
        simp only at hq1
        have HF2 := Lib.hid (HF.out.symm.trans hq1)
        have HQ : Hid (∀ W, Rd W g s (p + 1) e ea → Calls Tryd.prog 117 #[.pointer (some ⟨g, 0, none⟩)] W (QPost W g s (p + 1) e ea none)) := fun W h => hqs ▸ quoted_any W g s (p + 1) e ea h (by omega) (by omega) (by omega)
        clear hq1 hqs
        go_wp2_with fail
        refine (HQ.out _ (HR2.out.setAt (p + 1) _ (by omega))).mono ?_
        rintro y w3 ⟨rfl, ⟨q, hR3⟩, k3⟩
        have HR3 := Lib.hid hR3
        have HK3 := Lib.hid ((HK2.out.setRd _ _).same k3)
        clear hR3 k3
        go_wp2
        simp only [Exit.jump]
        go_ret2
        rw [HF2.out]
        refine ⟨rfl, ⟨q, ?_⟩, HK3.out⟩
        have := HR3.out
        rw [show ((p + 1 : Nat) : Int) - 1 = p from by omega] at this
        exact this
      | some tq =>
        obtain ⟨t, q⟩ := tq
        rw [hqs] at hq1
        simp only at hq1
        have HF2 := Lib.hid (hq1.symm.trans HF.out)
        have hql := quotedS_len s (p + 1) t q (by omega) hqs
        have HQ : Hid (∀ W, Rd W g s (p + 1) e ea → Calls Tryd.prog 117 #[.pointer (some ⟨g, 0, none⟩)] W (QPost W g s (p + 1) e ea (some (t, q)))) := fun W h => hqs ▸ quoted_any W g s (p + 1) e ea h (by omega) (by omega) (by omega)
        clear hq1 hqs
        go_wp2_with fail
        refine (HQ.out _ (HR2.out.setAt (p + 1) _ (by omega))).mono ?_
        rintro y w3 ⟨rfl, hR3, k3⟩
        have HR3 := Lib.hid hR3
        have HK3 := Lib.hid ((HK2.out.setRd _ _).same k3)
        have HO3 := Lib.hid ((HO2.out.setRd hgB _ _).keep k3 (fun x hx hc => by have := hsn x hx; simp at hc; omega))
        have hB3 := HK3.out.size
        have hts : (⟨t.toArray⟩ : ByteArray).size = t.length := by show t.toArray.size = t.length; simp
        have HT := Lib.hid (text_any w3 v l ⟨t.toArray⟩ HO3.out hB3 hll (fun a ha => by have := HA.out.2 a ha; omega) (by omega))
        have Hts := Lib.hid hts
        clear hR3 k3 hts
        go_wp2_with fail
        refine HT.out.mono ?_
        rintro y w4 ⟨v', rfl, h4, k4⟩
        have HR4 := Lib.hid (HR3.out.keep k4 (HO3.out.notin hgB))
        have HK4 := Lib.hid (HK3.out.trans k4 (fun x hx => .inr (HO3.out.lt x hx)))
        have HO4 := Lib.hid h4
        clear h4 k4
        go_wp2
        go_step3
        exact ⟨rfl, AJ.next (v := v') rfl rfl rfl rfl HR1.out HR4.out HO4.out HK4.out hp1 (by omega) (by omega) (HA.out.text (by omega) _ (by rw [Hts.out]; omega)) (by omega) HF2.out⟩
    by_cases h164 : x = 164
    · subst h164
      clear hst hsg h39
      have hq1 := (aroundF_money (f := f) (l := l) hps HX.out)
      rcases nil_or_snoc l with rfl | ⟨l0, a, rfl⟩
      · have HF2 : Hid (aroundF s f (p + n) ([] ++ [⟨5, ⟨#[]⟩, 1⟩]) = R) := hq1.symm.trans HF.out
        obtain ⟨A, cap, hv, _⟩ := HO2.out.form
        subst hv
        clear hq1
        have k0 : ((0 : Int) ≤ -1) = False := by simp
        go_wp2_with (at_builtin; refine wpList_append_aff rfl _ _ rfl rfl HO2.out _ rfl ⟨5, ⟨#[]⟩, 1⟩ rfl hll hB2 ?_; intro v' w3 h3 k3; have hR3 := HR2.out.keep k3 (HO2.out.notin hgB); obtain ⟨d0, d1, d2, d3, g1, g2, g3⟩ := hR3.cells; have HR3 := Lib.hid hR3; have HO3 := Lib.hid h3; have HK3 := Lib.hid (HK2.out.trans k3 (fun x hx => .inr (HO2.out.lt x hx))); clear hR3 h3 k3)
        go_step3
        exact ⟨rfl, AJ.next (v := v') rfl rfl rfl rfl HR1.out (HR3.out.setAt (p + n) _ (by omega)) (HO3.out.setRd hgB _ _) (HK3.out.setRd _ _) hp1 (by omega) (by omega) (HA.out.push (by omega) _ (Nat.zero_le _) (by simp)) (by omega) HF2.out⟩
      · have hlast : moneyAdd (l0 ++ [a]) = if a.k = 5 then (if a.c = 3 then none else some (l0 ++ [⟨a.k, a.t, a.c + 1⟩])) else some (l0 ++ [a] ++ [⟨5, ⟨#[]⟩, 1⟩]) := by
          simp [moneyAdd]
        have hal := HA.out.at_last
        obtain ⟨A, cap, hv, hfm⟩ := HO2.out.form
        subst hv
        obtain ⟨gv, rfl, hgv, hgv2⟩ := hfm (by simp)
        have hca := affC_at (l0 ++ [a]) l0.length a (by simp)
        have e0 : w2.cell? ⟨gv, l0.length * 3, none⟩ = some (.int .i64 a.k) := by rw [World.ownsRow.cellAt HO2.out _ (by simp), hca.1]
        have e2 : w2.cell? ⟨gv, l0.length * 3 + 2, none⟩ = some (.int .i64 a.c) := by rw [World.ownsRow.cellAt HO2.out _ (by simp; omega), hca.2.2]
        have ef : w2.frozen? ⟨gv, l0.length * 3 + 2, none⟩ = false := World.ownsRow.frozenAt HO2.out _
        have hl' : l0.length + 1 ≤ 1000000000000 := by simpa using hll
        clear hca hfm
        by_cases hk5 : a.k = 5
        · by_cases hc3 : a.c = 3
          · rw [hlast, if_pos hk5, if_pos hc3] at hq1
            have HF2 := Lib.hid (HF.out.symm.trans hq1)
            clear hq1 hlast
            go_wp2_with (go_at_call 116; refine (fail_any _ g s p e ea _ _ HR2.out).mono ?_; rintro z w3 ⟨rfl, h3, k3⟩)
            simp only [Exit.jump]
            go_ret2
            rw [HF2.out]
            exact ⟨rfl, ⟨p, h3⟩, HK2.out.same k3⟩
          · rw [hlast, if_pos hk5, if_neg hc3] at hq1
            have HF2 := Lib.hid (hq1.symm.trans HF.out)
            have hc3' : (a.c == 3) = false := by simpa using hc3
            have hc4 : a.c < 3 := by omega
            have hg2 : g ≠ gv := by omega
            have HS := HO2.out.stored (l0.length * 3 + 2) (.int .i64 (a.c + 1))
            have HO3 : Hid (OwnA (w2.setCell ⟨gv, l0.length * 3 + 2, none⟩ (.int .i64 (a.c + 1))) w.heap.size (.slice (some ⟨gv, 0, none⟩) (l0 ++ [a]).length cap) (l0 ++ [⟨a.k, a.t, a.c + 1⟩])) := by
              have h1 := HS.1
              rw [affC_set_count] at h1
              unfold Hid OwnA
              rw [show (l0 ++ [(⟨a.k, a.t, a.c + 1⟩ : Aff)]).length = (l0 ++ [a]).length from by simp]
              exact h1
            have HK3 : Hid (Keep [g] w (w2.setCell ⟨gv, l0.length * 3 + 2, none⟩ (.int .i64 (a.c + 1)))) := HK2.out.setCell (.inr hgv) _
            have HR3 : Hid (Rd (w2.setCell ⟨gv, l0.length * 3 + 2, none⟩ (.int .i64 (a.c + 1))) g s p e ea) := Blk.far HR2.out hg2 _
            have d1 := HR3.out.cells.2.1
            have g1 := HR3.out.cells.2.2.2.2.1
            clear hq1 hlast hc3 HS
            have hlen : (l0 ++ [a]).length = l0.length + 1 := by simp
            rw [hlen] at HO3
            clear hlen
            go_wp2
            go_step3
            exact ⟨rfl, AJ.next (v := .slice (some ⟨gv, 0, none⟩) (l0.length + 1) cap) rfl rfl rfl rfl HR1.out (HR3.out.setAt (p + n) _ (by omega)) (HO3.out.setRd hgB _ _) (HK3.out.setRd _ _) hp1 (by omega) (by omega) (HA.out.last (by omega) (by simp only; omega) (by simp only; omega)) (by omega) HF2.out⟩
        · rw [hlast, if_neg hk5] at hq1
          have HF2 := Lib.hid (hq1.symm.trans HF.out)
          have hk5' : (a.k == 5) = false := by simpa using hk5
          have hk5'' : (a.k != 5) = true := by simpa using hk5
          have hlen : (l0 ++ [a]).length = l0.length + 1 := by simp
          rw [hlen] at HO2
          clear hq1 hlast hk5 hlen
          go_wp2_with (at_builtin; refine wpList_append_aff rfl _ _ rfl rfl HO2.out _ rfl ⟨5, ⟨#[]⟩, 1⟩ rfl hll hB2 ?_; intro v' w3 h3 k3; have hR3 := HR2.out.keep k3 (HO2.out.notin hgB); obtain ⟨d0, d1, d2, d3, g1, g2, g3⟩ := hR3.cells; have HR3 := Lib.hid hR3; have HO3 := Lib.hid h3; have HK3 := Lib.hid (HK2.out.trans k3 (fun x hx => .inr (HO2.out.lt x hx))); clear hR3 h3 k3)
          go_step3
          exact ⟨rfl, AJ.next (v := v') rfl rfl rfl rfl HR1.out (HR3.out.setAt (p + n) _ (by omega)) (HO3.out.setRd hgB _ _) (HK3.out.setRd _ _) hp1 (by omega) (by omega) (HA.out.push (by omega) _ (Nat.zero_le _) (by simp)) (by omega) HF2.out⟩
    · have HF2 := Lib.hid ((aroundF_text (f := f) (l := l) hps HX.out (by simpa using hst) ⟨fun h => hsg (.inl h), fun h => hsg (.inr (.inl h)), fun h => hsg (.inr (.inr h)), h164, h39⟩).symm.trans HF.out)
      have hx1 : (x == -1) = false ∧ (x == 35) = false ∧ (x == 48) = false ∧ (x == 44) = false ∧ (x == 46) = false ∧ (x == 59) = false ∧ (x == 123) = false ∧ (x == 125) = false := by simpa [stopB, and_assoc] using hst
      obtain ⟨x1, x2, x3, x4, x5, x6, x7, x8⟩ := hx1
      have x9 : (x == 37) = false := by simp; omega
      have x10 : (x == 45) = false := by simp; omega
      have x11 : (x == 43) = false := by simp; omega
      have x12 : (x == 164) = false := by simpa using h164
      have x13 : (x == 39) = false := by simpa using h39
      have hxs := extract_len s p (p + n) (by omega)
      have hxs2 : (s.extract p (p + n)).size = n := by rw [ByteArray.size_extract]; omega
      have HT := Lib.hid (fun W h => text_any (B := w.heap.size) W v l (s.extract p (p + n)) h)
      have Hxs := Lib.hid hxs2
      clear hst hsg h39 h164 hxs hxs2
      have s1 : IntKind.i64.wrap ((p : Int) + n) = (p : Int) + n := IntWalk.i64_in _ (by omega)
      have s2 : (0 : Int) ≤ (p : Int) + n := by omega
      have s3 : ((p : Int) + n).toNat = p + n := by omega
      have s4 : (p : Int) ≤ (p : Int) + n := by omega
      have s5 : (p : Int) + n ≤ s.size := by omega
      have s6 : p + n ≤ s.size := by omega
      go_wp2
      refine region_tail 16 (by kernel_rfl) (by kernel_rfl) ?_
      simp only [List.take_succ_cons, List.take_zero, List.drop_succ_cons, List.drop_zero]
      repeat still_step
      refine wpStill_nil ?_
      clear s1 s2 s3 s4 s5
      go_wp2_with fail
      have hHT := HT.out w2.drew HO2.out hB2 hll (fun a ha => by have := HA.out.2 a ha; omega) (by rw [Hxs.out]; omega)
      refine hHT.mono ?_
      rintro y w4 ⟨v', rfl, h4, k4⟩
      have hR4 := Rd.keep (w := w2.drew) HR2.out k4 (HO2.out.notin hgB)
      have HK4 := Lib.hid (HK2.out.drew.trans k4 (fun x hx => .inr (hsn x hx)))
      have HO4 := Lib.hid h4
      obtain ⟨d0, d1, d2, d3, g1, g2, g3⟩ := hR4.cells
      have HR4 := Lib.hid hR4
      clear h4 k4 hHT hR4
      go_wp2
      go_step3
      exact ⟨rfl, AJ.next (v := v') rfl rfl rfl rfl HR1.out (HR4.out.setAt (p + n) _ (by omega)) (HO4.out.setRd hgB _ _) (HK4.out.setRd _ _) hp1 (by omega) (by omega) (HA.out.text (by omega) _ (by rw [Hxs.out]; omega)) (by omega) HF2.out⟩
  · intro hfst
    go_wp2
    go_step3
    rename_i K hK
    refine hK _ _ (hfst.out _ _ ?_)
    refine ⟨rfl, rfl, rfl, p0, f0, [], H.out, OwnA.nil _ _, Keep.refl _ _, Nat.le_refl _, hp0, AffIn.nil _, hf0, hR⟩
end Go.Proofs.YtkkglaglnfebjaaDoor
