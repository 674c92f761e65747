/- Walks: key of the reader of messages. -/
import Derived.Test.YtjldgcpmdcoejaaGreatDoorMW
namespace Go.Proofs.YtjldgcpmdcoejaaGreatDoor
open Go.RowKit

theorem numS_out (s : ByteArray) (p : Nat) : numS s p ≠ .out := by unfold numS; split <;> simp
theorem nameS_out (s : ByteArray) (p : Nat) : nameS s p ≠ .out := by unfold nameS; split <;> (try split) <;> simp
theorem containsS_eq (ws : List ByteArray) (x : ByteArray) : Lib.containsS ws x = memW ws x := by
  have h := Lib.containsS_iff ws x
  rw [Bool.eq_iff_iff, h, memW_iff]
/-- strings.Fields of words of ASCII, in plain words. -/
theorem fields_words {B : Nat} (s : ByteArray) (ws : List ByteArray) (W : World) (hE : EnvM B W) (hs : s.size < 4294967281) (ha : s.data.toList.all (fun b => decide (b.toNat < 128)) = true) (h : (Lib.fields s.data.toList).map (fun l => (⟨l.toArray⟩ : ByteArray)) = ws) :
    Calls Tryz.prog 98 #[.string s] W fun e w' => e = .returned (.slice (some ⟨W.heap.size, 0, none⟩) ws.length ws.length) ∧ w' = W.alloc (.cells (ws.map Value.string).toArray 9) := by
  subst h
  have := Tryz.strings_Fields_laid s W hs (fun j b hj => by
    have := List.all_eq_true.1 ha b (List.mem_of_getElem? hj)
    simpa using this) hE.vars.sp
  simpa [List.map_map, Function.comp_def] using this
/-- slices.Contains in such words. -/
theorem words_contain (W : World) (n : Nat) (hn : W.heap.size = n) (ws : List ByteArray) (x : ByteArray) (hl : ws.length ≤ 1000) :
    Calls Tryz.prog 97 #[.slice (some ⟨n, 0, none⟩) ws.length ws.length, .string x] (W.alloc (.cells (ws.map Value.string).toArray 9)) fun e w' => e = .returned (.bool (memW ws x)) ∧ w' = W.alloc (.cells (ws.map Value.string).toArray 9) := by
  have := Tryz.slices_Contains_string n 0 ws.length ws.length ws x (W.alloc (.cells (ws.map Value.string).toArray 9)) (Nat.le_refl _) (by omega) (fun j hj => by
    rw [Nat.zero_add]
    refine (Blk.new' W 9 (ws.map Value.string).toArray n hn).cell_eq ?_
    simp [List.getD_eq_getElem?_getD, List.getElem?_eq_getElem hj])
  rw [List.take_length, containsS_eq] at this
  exact this

theorem eqKey_ret (y : Int) : Ending.returned (.string ((⟨#[61]⟩ : ByteArray) ++ ⟨(Lib.itoa y).toArray⟩)) = .returned (.string (eqKey y)) := by
  unfold eqKey
  congr 3
set_option maxRecDepth 100000 in
set_option maxHeartbeats 2000000 in
/-- key. -/
theorem key_any {B : Nat} (w : World) (g : Nat) (s : ByteArray) (kind : Int) (p n d : Nat) (v : Value) (hE : EnvM B w) (hBg : B ≤ g) (h : Rr w g s p n d v) (hp : p ≤ s.size) (hs : s.size ≤ 1000000000) :
    Calls Tryz.prog 141 #[.pointer (some ⟨g, 0, none⟩), .int .i64 kind] w (RPost w g s n d v Value.string (keyS s kind p)) := by
  have HE := Lib.hid hE
  have H := Lib.hid h
  obtain ⟨c0, c1, c2, c3, c4, f1, f2, f3, f4⟩ := h.cells
  clear h hE
  by_cases hk : kind = 4
  · subst hk
    have HN := Lib.hid (fun W (h : Rr W g s p n d v) => name_any W g s p n d v h hp (by omega))
    cases hn : nameS s p with
    | out => exact absurd hn (nameS_out _ _)
    | bad e q =>
      rw [hn] at HN
      have HK : Hid (keyS s 4 p = .bad e q) := by unfold Hid keyS; rw [if_neg (by simp), hn]; rfl
      clear hn
      go_enter Tryz.func141, Tryz.ntmps141
      go_wp2_with (go_at_call 94; refine (HN.out _ H.out).mono ?_; rintro x w2 ⟨rfl, hk2⟩)
      rw [HK.out]
      exact ⟨rfl, rfl, hk2⟩
    | ok t q =>
      rw [hn] at HN
      have HK : Hid (keyS s 4 p = .ok t q) := by unfold Hid keyS; rw [if_neg (by simp), hn]; rfl
      clear hn
      go_enter Tryz.func141, Tryz.ntmps141
      go_wp2_with (go_at_call 94; refine (HN.out _ H.out).mono ?_; rintro x w2 ⟨rfl, hR2, hk2⟩)
      go_ret
      rw [HK.out]
      exact ⟨rfl, hR2, hk2⟩
  · have hk1 : (kind == 4) = false := by simpa using hk
    have hk2 : (kind != 4) = true := by simpa using hk
    by_cases h61 : byt s p = 61
    · have HO := Lib.hid (show (byt s p == 61) = true by rw [h61]; rfl)
      have hlt : p < s.size := byt_lt (by omega)
      have HN := Lib.hid (fun W hEE (h : Rr W g s (p + 1) n d v) => rnumber_any (B := B) W g s (p + 1) n d v hEE hBg h (by omega) hs)
      have hv : ∀ x q, numS s (p + 1) = .ok x q → (-9223372036854775808 ≤ x ∧ x ≤ 9223372036854775807) ∧ (Lib.itoa x).length ≤ 9 := fun x q hx => by
        unfold numS at hx
        split at hx
        · rename_i y hy
          injection hx with hx _
          subst hx
          unfold numV at hy
          split at hy
          · rename_i z hz
            split at hy
            · rename_i hc
              injection hy with hy
              subst hy
              refine ⟨Lib.atoiAll_bounds hz, ?_⟩
              rw [hc.2.1, Array.length_toList]
              exact hc.1
            · cases hy
          · cases hy
        · cases hx
      cases hn : numS s (p + 1) with
      | out => exact absurd hn (numS_out _ _)
      | bad e q =>
        rw [hn] at HN
        have HK : Hid (keyS s kind p = .bad e q) := by unfold Hid keyS; rw [if_pos ⟨hk, h61⟩, hn]; rfl
        clear hn hk h61 hv
        go_enter Tryz.func141, Tryz.ntmps141
        go_wp2_with (go_at_call 68; refine (on_any _ g s p n d v 61 H.out (by omega)).mono ?_; rintro x w2 ⟨rfl, k, rfl⟩; rw [HO.out])
        refine (HN.out _ (HE.out.keep (((Keep.refl [g] _).drewN _).setCell (.inl (by simp)) _) (by simpa using hBg)) ((H.out.drewN _).setAt (p + 1) _ (by omega))).mono ?_
        rintro x w3 ⟨rfl, hk3⟩
        go_wp2_with fail
        rw [HK.out]
        exact ⟨rfl, rfl, (((Keep.refl [g] _).drewN _).setCell (.inl (by simp)) _).same hk3⟩
      | ok y q =>
        rw [hn] at HN
        have HK : Hid (keyS s kind p = .ok (eqKey y) q) := by unfold Hid keyS; rw [if_pos ⟨hk, h61⟩, hn]; rfl
        have HY := Lib.hid (hv y q hn).1
        obtain ⟨IT, hIT, hIs⟩ : ∃ IT : ByteArray, IT = ⟨(Lib.itoa y).toArray⟩ ∧ IT.size ≤ 9 := ⟨_, rfl, by have := (hv y q hn).2; show (Lib.itoa y).toArray.size ≤ 9; simpa using this⟩
        have HI := Lib.hid hIT
        have hIs' : (1 : Int) + (IT.size : Int) ≤ 9223372036854775807 := by omega
        clear hIT
        clear hn hk h61 hv
        go_enter Tryz.func141, Tryz.ntmps141
        go_wp2_with (go_at_call 68; refine (on_any _ g s p n d v 61 H.out (by omega)).mono ?_; rintro x w2 ⟨rfl, k, rfl⟩; rw [HO.out])
        refine (HN.out _ (HE.out.keep (((Keep.refl [g] _).drewN _).setCell (.inl (by simp)) _) (by simpa using hBg)) ((H.out.drewN _).setAt (p + 1) _ (by omega))).mono ?_
        rintro x w3 ⟨rfl, hR3, hk3⟩
        have HR3 := Lib.hid hR3
        have HK3 := Lib.hid ((((Keep.refl [g] _).drewN _).setCell (.inl (by simp)) _).same hk3)
        clear hR3 hk3
        have HP := Lib.hid (HE.out.keep HK3.out (by simpa using hBg)).vars.pow
        go_wp2_with fail
        refine (Tryz.strconv_Itoa y HY.out.1 HY.out.2 _ HP.out).mono ?_
        rintro e w4 ⟨rfl, k, os, rfl⟩
        rw [← HI.out]
        go_wp2_with fail
        go_ret
        rw [HK.out]
        exact ⟨by rw [HI.out]; exact eqKey_ret y, HR3.out.below (below_itoa _ _ _) HR3.out.lt, HK3.out.below_ge (below_itoa _ _ _) HK3.out.size⟩
    · have HO := Lib.hid (show (byt s p == 61) = false by simpa using h61)
      have HN := Lib.hid (fun W (h : Rr W g s p n d v) => name_any W g s p n d v h hp (by omega))
      cases hn : nameS s p with
      | out => exact absurd hn (nameS_out _ _)
      | bad e q =>
        rw [hn] at HN
        have HK : Hid (keyS s kind p = .bad e q) := by unfold Hid keyS; rw [if_neg (by simp [h61]), hn]; rfl
        clear hn hk h61
        go_enter Tryz.func141, Tryz.ntmps141
        go_wp2_with (first | (go_at_call 68; refine (on_any _ g s p n d v 61 H.out (by omega)).mono ?_; rintro x w2 ⟨rfl, k, rfl⟩; rw [HO.out]) | (go_at_call 94; refine (HN.out _ (H.out.drewN _)).mono ?_; rintro x w2 ⟨rfl, hk2⟩))
        rw [HK.out]
        exact ⟨rfl, rfl, ((Keep.refl [g] _).drewN _).same hk2⟩
      | ok t q =>
        rw [hn] at HN
        have HC : Hid (∀ (W : World) (n : Nat), W.heap.size = n → Calls Tryz.prog 97 #[.slice (some ⟨n, 0, none⟩) 6 6, .string t] (W.alloc (.cells #[.string ⟨#[122, 101, 114, 111]⟩, .string ⟨#[111, 110, 101]⟩, .string ⟨#[116, 119, 111]⟩, .string ⟨#[102, 101, 119]⟩, .string ⟨#[109, 97, 110, 121]⟩, .string ⟨#[111, 116, 104, 101, 114]⟩] 9)) fun e w' => e = .returned (.bool (memW catsW t)) ∧ w' = W.alloc (.cells #[.string ⟨#[122, 101, 114, 111]⟩, .string ⟨#[111, 110, 101]⟩, .string ⟨#[116, 119, 111]⟩, .string ⟨#[102, 101, 119]⟩, .string ⟨#[109, 97, 110, 121]⟩, .string ⟨#[111, 116, 104, 101, 114]⟩] 9)) := fun W n hn => words_contain W n hn catsW t (by decide)
        have HF : Hid (∀ W, EnvM B W → Calls Tryz.prog 98 #[.string ⟨#[122, 101, 114, 111, 32, 111, 110, 101, 32, 116, 119, 111, 32, 102, 101, 119, 32, 109, 97, 110, 121, 32, 111, 116, 104, 101, 114]⟩] W fun e w' => e = .returned (.slice (some ⟨W.heap.size, 0, none⟩) 6 6) ∧ w' = W.alloc (.cells #[.string ⟨#[122, 101, 114, 111]⟩, .string ⟨#[111, 110, 101]⟩, .string ⟨#[116, 119, 111]⟩, .string ⟨#[102, 101, 119]⟩, .string ⟨#[109, 97, 110, 121]⟩, .string ⟨#[111, 116, 104, 101, 114]⟩] 9)) := fun W hE => fields_words (B := B) _ catsW W hE (by decide) (by decide) (by decide)
        cases hd : memW catsW t with
        | true =>
          rw [hd] at HC
          have HK : Hid (keyS s kind p = .ok t q) := by unfold Hid keyS; rw [if_neg (by simp [h61]), hn]; simp only [RR.then]; rw [if_neg (by simp [hd])]
          clear hn hk h61 hd
          go_enter Tryz.func141, Tryz.ntmps141
          go_wp2_with (first | (go_at_call 68; refine (on_any _ g s p n d v 61 H.out (by omega)).mono ?_; rintro x w2 ⟨rfl, k, rfl⟩; rw [HO.out]) | (go_at_call 94; refine (HN.out _ (H.out.drewN _)).mono ?_; rintro x w2 ⟨rfl, hR2, hk2⟩; have HR2 := Lib.hid hR2; have HK2 := Lib.hid (((Keep.refl [g] _).drewN _).same hk2); clear hR2 hk2) | (go_at_call 98; refine (HF.out _ (HE.out.keep HK2.out (by simpa using hBg))).mono ?_; rintro x w3 ⟨rfl, rfl⟩) | (go_at_call 97; refine (HC.out _ _ rfl).mono ?_; rintro x w4 ⟨rfl, rfl⟩))
          go_ret
          rw [HK.out]
          exact ⟨rfl, Blk.alloc HR2.out _, HK2.out.alloc _⟩
        | false =>
          rw [hd] at HC
          have HK : Hid (keyS s kind p = .bad 290 p) := by unfold Hid keyS; rw [if_neg (by simp [h61]), hn]; simp only [RR.then]; rw [if_pos ⟨hk, hd⟩]
          clear hn hk h61 hd
          go_enter Tryz.func141, Tryz.ntmps141
          go_wp2_with (first | (go_at_call 68; refine (on_any _ g s p n d v 61 H.out (by omega)).mono ?_; rintro x w2 ⟨rfl, k, rfl⟩; rw [HO.out]) | (go_at_call 94; refine (HN.out _ (H.out.drewN _)).mono ?_; rintro x w2 ⟨rfl, hR2, hk2⟩; have HR2 := Lib.hid hR2; have HK2 := Lib.hid (((Keep.refl [g] _).drewN _).same hk2); clear hR2 hk2) | (go_at_call 98; refine (HF.out _ (HE.out.keep HK2.out (by simpa using hBg))).mono ?_; rintro x w3 ⟨rfl, rfl⟩) | (go_at_call 97; refine (HC.out _ _ rfl).mono ?_; rintro x w4 ⟨rfl, rfl⟩) | (go_at_call 37; refine (rfail_any _ _ _ _).mono ?_; rintro x w3 ⟨rfl, rfl⟩))
          rw [HK.out]
          exact ⟨rfl, rfl, HK2.out.alloc _⟩
end Go.Proofs.YtjldgcpmdcoejaaGreatDoor
