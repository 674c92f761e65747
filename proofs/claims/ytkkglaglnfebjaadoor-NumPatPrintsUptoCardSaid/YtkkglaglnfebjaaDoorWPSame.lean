/- Both Prints write the same. -/
import Derived.Test.YtkkglaglnfebjaaDoorWRPrint
namespace Go.Proofs.YtkkglaglnfebjaaDoor
open Go.RowKit Go.IntWalk

theorem dressF_len (s : ByteArray) : ∀ f p o, (dressF s f p o).length ≤ 6 * (s.size - p) + 1
  | 0, p, o => by simp [dressF]
  | f + 1, p, o => by
    by_cases h : p < s.size
    · have hw := Lib.width_pos s p
      have hl := dec_le s p h
      cases h2 : (((Utf8.decode s p).1 : Int) == 39)
      · cases h3 : (specB ((Utf8.decode s p).1 : Int) != o)
        · rw [dressF_same h h2 h3, List.length_append]
          have := dressF_len s f (p + (Utf8.decode s p).2) (specB ((Utf8.decode s p).1 : Int))
          have := encodeRune_len ((Utf8.decode s p).1 : Int)
          omega
        · rw [dressF_turn h h2 h3, List.length_append, List.length_append]
          have := dressF_len s f (p + (Utf8.decode s p).2) (specB ((Utf8.decode s p).1 : Int))
          have := encodeRune_len ((Utf8.decode s p).1 : Int)
          show 1 + _ + _ ≤ _
          omega
      · rw [dressF_apos h h2, List.length_append]
        have := dressF_len s f (p + (Utf8.decode s p).2) o
        show 2 + _ ≤ _
        omega
    · rw [dressF_end h]
      split <;> simp
theorem dressL_len (s : ByteArray) (h : s.size ≤ 1048576) : (dressL s).length ≤ 7000000 := by
  have := dressF_len s (s.size + 1) 0 false
  unfold dressL
  omega
theorem fits_in : ∀ (l : List Aff) (ah : Int), fitsS ah l = true → ∀ a ∈ l, 1 ≤ a.k ∧ a.k ≤ 5 ∧ (a.k = 5 → 0 ≤ a.c ∧ a.c ≤ 3)
  | [], _, _, a, h => by cases h
  | b :: l, ah, h, a, ha => by
    simp only [fitsS, Bool.and_eq_true] at h
    rcases List.mem_cons.1 ha with rfl | ha
    · have h1 := h.1
      unfold affOk at h1
      by_cases k1 : a.k = 1
      · exact ⟨by omega, by omega, fun h5 => by omega⟩
      · rw [if_neg k1] at h1
        by_cases k5 : a.k = 5
        · rw [if_pos k5, decide_eq_true_eq] at h1
          exact ⟨by omega, by omega, fun _ => ⟨by omega, h1.2.2.1⟩⟩
        · rw [if_neg k5] at h1
          by_cases k2 : a.k = 2 ∨ a.k = 3 ∨ a.k = 4
          · exact ⟨by omega, by omega, fun h5 => by omega⟩
          · rw [if_neg k2] at h1; cases h1
    · exact fits_in l _ h.2 a ha
theorem flat_len {f : Aff → List UInt8} {n : Nat} : ∀ (l : List Aff), (∀ a ∈ l, (f a).length ≤ n) → (l.flatMap f).length ≤ l.length * n
  | [], _ => by simp
  | a :: l, h => by
    have h1 := h a (by simp)
    have h2 := flat_len l (fun b hb => h b (by simp [hb]))
    rw [List.flatMap_cons, List.length_append, List.length_cons, Nat.succ_mul]
    omega
/-- A list of pieces that may be written. -/
structure LOK (l : List Aff) : Prop where
  len : l.length ≤ 30
  txt : ∀ a ∈ l, a.t.size ≤ 1048576
  fit : ∀ a ∈ l, 1 ≤ a.k ∧ a.k ≤ 5 ∧ (a.k = 5 → 0 ≤ a.c ∧ a.c ≤ 3)
def textL (l : List Aff) : List UInt8 := l.flatMap (pieceL dressL)
theorem LOK.put {l : List Aff} (h : LOK l) : PutOK l (textL l) :=
  put_any dressL l (fun a ha _ => ⟨dress_any a.t (by have := h.txt a ha; omega), Nat.le_trans (dressL_len a.t (h.txt a ha)) (by decide)⟩) (fun a ha => (h.fit a ha).2.2) (by have := h.len; omega)
theorem LOK.textLen {l : List Aff} (h : LOK l) : (textL l).length ≤ 210000000 := by
  have h1 := flat_len (f := pieceL dressL) (n := 7000000) l (fun a ha => by
    have hk := h.fit a ha
    unfold pieceL
    by_cases k1 : a.k = 1
    · rw [if_pos k1]; exact dressL_len a.t (h.txt a ha)
    · rw [if_neg k1]
      by_cases k2 : a.k = 2
      · rw [if_pos k2]; decide
      · rw [if_neg k2]
        by_cases k3 : a.k = 3
        · rw [if_pos k3]; decide
        · rw [if_neg k3]
          by_cases k4 : a.k = 4
          · rw [if_pos k4]; decide
          · rw [if_neg k4]
            by_cases k5 : a.k = 5
            · rw [if_pos k5, Lib.repeatL_length]
              have := hk.2.2 k5
              show a.c.toNat * 2 ≤ _ 
              omega
            · rw [if_neg k5]; decide)
  have h2 := h.len
  unfold textL
  have : l.length * 7000000 ≤ 30 * 7000000 := Nat.mul_le_mul_right _ h2
  omega
theorem LOK.rput {l : List Aff} (h : LOK l) (w : World) (v : Value) (hv : RdA w v l) : Calls Tryd.prog 51 #[v] w fun e w' => e = .returned (.string ⟨(textL l).toArray⟩) ∧ Keep [] w w' :=
  rput_any w v l hv (fun a ha => ⟨(h.fit a ha).1, (h.fit a ha).2.1⟩) (fun a ha => (h.fit a ha).2.2) (fun a ha => by have := h.txt a ha; omega) (by have := h.len; omega)
theorem print_no (w : World) (v1 v2 v3 v4 : Value) (p : PatD) (hr : rightB p = false) (hp : RdP w v1 v2 v3 v4 p) (hsz : PatSz p) :
    Calls Tryd.prog 17 #[patV v1 v2 v3 v4 p] w fun e w' => e = .returned (.tuple #[.string ⟨#[]⟩, .int .i64 2]) ∧ Keep [] w w' := by
  have hC := Lib.hid (pcheck_any (w.alloc (boxP v1 v2 v3 v4 p)) v1 v2 v3 v4 p (hp.keep_nil ((Keep.refl [] w).alloc _)) hsz)
  rw [hr] at hC
  change Hid (Calls _ _ _ _ fun e w' => e = .returned (.int .i64 2) ∧ Keep [] _ w') at hC
  obtain ⟨A1, k1, rfl, -⟩ := hp.pre
  obtain ⟨A2, k2, rfl, -⟩ := hp.suf
  obtain ⟨A3, k3, rfl, -⟩ := hp.npre
  obtain ⟨A4, k4, rfl, -⟩ := hp.nsuf
  clear hp hr hsz
  unfold boxP at hC
  simp only [patV] at *
  go_enter Tryd.func17, Tryd.ntmps17
  go_wp2_with (go_at_call 20; refine hC.out.mono ?_; rintro e w' ⟨rfl, hk⟩)
  go_ret2
  exact ⟨rfl, ((Keep.refl _ _).alloc _).nil hk⟩
theorem catP_list (p : PatD) (b1 b2 b3 b4 : List UInt8) : (catP p.neg ⟨b1.toArray⟩ ⟨(shapeL p).toArray⟩ ⟨b2.toArray⟩ ⟨b3.toArray⟩ ⟨b4.toArray⟩).data.toList = printL p b1 b2 b3 b4 := by
  unfold catP printL
  cases p.neg
  · simp only [Bool.false_eq_true, if_false, cat_list, List.append_nil]
  · simp only [if_true, cat_list, List.append_assoc]
theorem shapeL_len (p : PatD) (hr : rightB p = true) : (shapeL p).length ≤ 300 := by
  obtain ⟨⟨a1, a2, a3, a4, a5, a6⟩, hg⟩ := right_nums p hr
  have h1 := digitsN_le p hg a1 a2
  have h2 := digitsF_len (commasL p.g p.g2) p.mi (digitsN p).toNat
  have h3 : (fracL p.mf p.xf).length ≤ 130 := by
    unfold fracL
    split
    · rw [List.length_append, List.length_append, List.length_replicate, List.length_replicate]
      show 1 + _ + _ ≤ _
      omega
    · decide
  unfold shapeL
  rw [List.length_append]
  omega
theorem arr_size (l : List UInt8) : (⟨l.toArray⟩ : ByteArray).size = l.length := by rw [size_list]
/-- Both write the same, or the same fault. -/
theorem prints_same (p : PatD) (hsz : PatSz p) (hl : p.pre.length ≤ 30 ∧ p.suf.length ≤ 30 ∧ p.npre.length ≤ 30 ∧ p.nsuf.length ≤ 30) (ht : ∀ a, a ∈ p.pre ∨ a ∈ p.suf ∨ a ∈ p.npre ∨ a ∈ p.nsuf → a.t.size ≤ 1048576) :
    ∃ (S : ByteArray) (E : Int), (∀ (w : World) (v1 v2 v3 v4 : Value), RdP w v1 v2 v3 v4 p → Calls Tryd.prog 17 #[patV v1 v2 v3 v4 p] w fun e w' => e = .returned (.tuple #[.string S, .int .i64 E]) ∧ Keep [] w w') ∧
      (∀ (w : World) (v1 v2 v3 v4 : Value), RdP w v1 v2 v3 v4 p → Calls Tryd.prog 18 #[patV v1 v2 v3 v4 p] w fun e w' => e = .returned (.tuple #[.string S, .int .i64 E]) ∧ Keep [] w w') := by
  cases hr : rightB p
  · exact ⟨⟨#[]⟩, 2, fun w v1 v2 v3 v4 hp => print_no w v1 v2 v3 v4 p hr hp hsz, fun w v1 v2 v3 v4 hp => rprint_no w v1 v2 v3 v4 p hr hp hsz⟩
  · have hr2 := hr
    simp only [rightB, Bool.and_eq_true] at hr2
    obtain ⟨_, f1, f2, f3, f4⟩ := hr2
    have L1 : LOK p.pre := ⟨hl.1, fun a ha => ht a (.inl ha), fits_in _ _ f1⟩
    have L2 : LOK p.suf := ⟨hl.2.1, fun a ha => ht a (.inr (.inl ha)), fits_in _ _ f2⟩
    have L3 : LOK p.npre := ⟨hl.2.2.1, fun a ha => ht a (.inr (.inr (.inl ha))), fits_in _ _ f3⟩
    have L4 : LOK p.nsuf := ⟨hl.2.2.2, fun a ha => ht a (.inr (.inr (.inr ha))), fits_in _ _ f4⟩
    have hT := catP_list p (textL p.pre) (textL p.suf) (textL p.npre) (textL p.nsuf)
    have hS := shapeL_len p hr
    have t1 := L1.textLen
    have t2 := L2.textLen
    have t3 := L3.textLen
    have t4 := L4.textLen
    refine ⟨if 4096 < (catP p.neg ⟨(textL p.pre).toArray⟩ ⟨(shapeL p).toArray⟩ ⟨(textL p.suf).toArray⟩ ⟨(textL p.npre).toArray⟩ ⟨(textL p.nsuf).toArray⟩).size then ⟨#[]⟩ else catP p.neg ⟨(textL p.pre).toArray⟩ ⟨(shapeL p).toArray⟩ ⟨(textL p.suf).toArray⟩ ⟨(textL p.npre).toArray⟩ ⟨(textL p.nsuf).toArray⟩,
      if 4096 < (catP p.neg ⟨(textL p.pre).toArray⟩ ⟨(shapeL p).toArray⟩ ⟨(textL p.suf).toArray⟩ ⟨(textL p.npre).toArray⟩ ⟨(textL p.nsuf).toArray⟩).size then 3 else 0, fun w v1 v2 v3 v4 hp => ?_, fun w v1 v2 v3 v4 hp => ?_⟩
    · refine (print_any w v1 v2 v3 v4 p _ _ _ _ hp hsz L1.put L2.put L3.put L4.put ⟨by omega, by omega, by omega, by omega⟩).mono ?_
      rintro e w' ⟨rfl, hk⟩
      refine ⟨?_, hk⟩
      generalize catP p.neg ⟨(textL p.pre).toArray⟩ ⟨(shapeL p).toArray⟩ ⟨(textL p.suf).toArray⟩ ⟨(textL p.npre).toArray⟩ ⟨(textL p.nsuf).toArray⟩ = T at *
      have hlen : (printL p (textL p.pre) (textL p.suf) (textL p.npre) (textL p.nsuf)).length = T.size := by rw [size_list, hT]
      have hT2 := list_string T _ hT
      unfold printR
      rw [if_neg (by rw [hr]; decide), hlen]
      by_cases h4 : 4096 < T.size
      · rw [if_pos h4, if_pos h4, if_pos h4]
      · rw [if_neg h4, if_neg h4, if_neg h4, ← hT2]
    · exact rprint_yes w v1 v2 v3 v4 p _ _ _ _ _ hr hp hsz (fun W hk => L1.rput W v1 (hp.pre.keep_nil hk)) (fun W hk => L2.rput W v2 (hp.suf.keep_nil hk)) (fun W hk => L3.rput W v3 (hp.npre.keep_nil hk)) (fun W hk => L4.rput W v4 (hp.nsuf.keep_nil hk)) (fun W hk => shape_any W v1 v2 v3 v4 p hr (hp.keep_nil hk))
        (by rw [arr_size]; omega) (by rw [arr_size]; omega) (by rw [arr_size]; omega) (by rw [arr_size]; omega) (by rw [arr_size]; omega)
end Go.Proofs.YtkkglaglnfebjaaDoor
