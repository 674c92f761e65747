/- Walks: numpat's dress: a text that is read as it is. -/
import Derived.Test.YtkkglaglnfebjaaDoorWRune
import Derived.Test.YtkkglaglnfebjaaDoorWPut
namespace Go.Proofs.YtkkglaglnfebjaaDoor
open Go.RowKit Go.IntWalk

theorem dec_valid (s : ByteArray) (p : Nat) : Lib.validRune ((Utf8.decode s p).1 : Int) = true := by
  rw [Lib.decode_at]
  have h0 : (s.get! p).toNat < 256 := UInt8.toNat_lt _
  generalize s.size - p = n, (s.get! p).toNat = b0, (s.get! (p + 1)).toNat = b1, (s.get! (p + 2)).toNat = b2, (s.get! (p + 3)).toNat = b3 at *
  simp only [Lib.validRune, decide_eq_true_eq]
  unfold Lib.decodeN
  repeat' split
  all_goals (simp only; omega)
theorem dec_le (s : ByteArray) (p : Nat) (h : p < s.size) : p + (Utf8.decode s p).2 ≤ s.size := by
  rw [Lib.decode_at]
  generalize hn : s.size - p = n
  generalize (s.get! p).toNat = b0, (s.get! (p + 1)).toNat = b1, (s.get! (p + 2)).toNat = b2, (s.get! (p + 3)).toNat = b3
  have : (Lib.decodeN n b0 b1 b2 b3).2 ≤ n := by
    unfold Lib.decodeN
    repeat' split
    all_goals (simp only; omega)
  omega
/-- What dress writes from a place on. -/
def dressF (s : ByteArray) : Nat → Nat → Bool → List UInt8
  | 0, _, _ => []
  | f + 1, p, o =>
    if p < s.size then
      (if (((Utf8.decode s p).1 : Int) == 39) = true then [39, 39] ++ dressF s f (p + (Utf8.decode s p).2) o
       else (if (specB ((Utf8.decode s p).1 : Int) != o) = true then [39] else []) ++ (Lib.encodeRune ((Utf8.decode s p).1 : Int) ++ dressF s f (p + (Utf8.decode s p).2) (specB ((Utf8.decode s p).1 : Int))))
    else if o = true then [39] else []
section
variable {s : ByteArray} {f p : Nat} {o : Bool}
theorem dressF_apos (h : p < s.size) (h2 : (((Utf8.decode s p).1 : Int) == 39) = true) : dressF s (f + 1) p o = [39, 39] ++ dressF s f (p + (Utf8.decode s p).2) o := by rw [dressF, if_pos h, if_pos h2]
theorem dressF_turn (h : p < s.size) (h2 : (((Utf8.decode s p).1 : Int) == 39) = false) (h3 : (specB ((Utf8.decode s p).1 : Int) != o) = true) : dressF s (f + 1) p o = ([39] ++ Lib.encodeRune ((Utf8.decode s p).1 : Int)) ++ dressF s f (p + (Utf8.decode s p).2) (specB ((Utf8.decode s p).1 : Int)) := by rw [dressF, if_pos h, if_neg (by rw [h2]; decide), if_pos h3, List.append_assoc]
theorem dressF_same (h : p < s.size) (h2 : (((Utf8.decode s p).1 : Int) == 39) = false) (h3 : (specB ((Utf8.decode s p).1 : Int) != o) = false) : dressF s (f + 1) p o = Lib.encodeRune ((Utf8.decode s p).1 : Int) ++ dressF s f (p + (Utf8.decode s p).2) (specB ((Utf8.decode s p).1 : Int)) := by rw [dressF, if_pos h, if_neg (by rw [h2]; decide), if_neg (by rw [h3]; decide), List.nil_append]
theorem dressF_end (h : ¬ p < s.size) : dressF s (f + 1) p o = if o = true then [39] else [] := by rw [dressF, if_neg h]
end
def dressL (s : ByteArray) : List UInt8 := dressF s (s.size + 1) 0 false
theorem encodeRune_len (r : Int) : (Lib.encodeRune r).length ≤ 4 := by
  have := (Lib.encodeRuneZ_length r).2
  simpa [Lib.encodeRune] using this
theorem keep_iterAt {w : World} {k : Nat} {s : ByteArray} {p : Nat} : Keep [k] w (w.iterAt k s p) :=
  ⟨rfl, rfl, rfl, by rw [Lib.iterAt_size]; exact Nat.le_refl _, fun i _ hn => Lib.iterAt_other w k i s p (by simpa using hn)⟩
theorem Bld.iterAt {b k : Nat} {acc : List UInt8} {w : World} {s : ByteArray} {p p' : Nat} (h : Bld b acc w) (hi : w.heap[k]? = some (.stringIter s p)) (hne : b ≠ k) : Bld b acc (w.iterAt k s p') :=
  h.keep keep_iterAt (by simpa using hne) (fun x hx c fz hc => by simp at hx; subst hx; rw [hi] at hc; cases hc)
theorem Blk.lt' {w : World} {k : Nat} {o : Obj} (h : w.heap[k]? = some o) : k < w.heap.size := (Array.getElem?_eq_some_iff.1 h).1
theorem iter_new (w : World) (n : Nat) (hn : w.heap.size = n) (o o2 : Obj) : ((w.alloc o).alloc o2).heap[n + 1]? = some o2 := by
  have h : (w.alloc o).heap.size = n + 1 := by simp [hn]
  rw [← h]
  exact heap_alloc_new _ _
/-- What holds in dress' loop. -/
structure DrW (w : World) (n : Nat) (t : ByteArray) (R : List UInt8) (o : Bool) (f pos : Nat) (acc : List UInt8) (wx : World) : Prop where
  bld : Bld n acc wx
  it : wx.heap[n + 1]? = some (.stringIter t pos)
  kp : Below n w wx
  eq : acc ++ dressF t f pos o = R
  len : acc.length ≤ 6 * pos
  fuel : t.size < pos + f
  le : pos ≤ t.size
theorem DrW.step {w wx w' : World} {n f pos : Nat} {t : ByteArray} {R acc xs : List UInt8} {o o' : Bool} (h : DrW w n t R o (f + 1) pos acc wx) (hlt : pos < t.size) (hb : Bld n (acc ++ xs) w') (hk : Below n (wx.iterAt (n + 1) t (pos + (Utf8.decode t pos).2)) w')
    (ho : w'.heap[n + 1]? = some (.stringIter t (pos + (Utf8.decode t pos).2))) (hx : xs.length ≤ 6) (he : dressF t (f + 1) pos o = xs ++ dressF t f (pos + (Utf8.decode t pos).2) o') : DrW w n t R o' f (pos + (Utf8.decode t pos).2) (acc ++ xs) w' :=
  ⟨hb, ho, (Lib.below_iterAt h.kp (Nat.le_succ n) _ _).trans hk, by rw [List.append_assoc, ← he]; exact h.eq, by have := h.len; have := Lib.width_pos t pos; simp only [List.length_append]; omega, by have := h.fuel; have := Lib.width_pos t pos; omega, dec_le t pos hlt⟩

set_option maxRecDepth 100000 in
set_option maxHeartbeats 2000000 in
theorem dress_any (t : ByteArray) (ht : t.size ≤ 1000000000) : DressOK t (dressL t) := by
  intro w
  obtain ⟨n, hn⟩ : ∃ n, w.heap.size = n := ⟨_, rfl⟩
  obtain ⟨R, hR⟩ : ∃ R, dressL t = R := ⟨_, rfl⟩
  have HR := Lib.hid hR
  have HN := Lib.hid hn
  have HB0 : Hid (Bld n [] ((w.alloc (.cells #[.pointer none, .slice none 0 0] 86)).alloc (.stringIter t 0))) := (Bld.new' w n hn).alloc _
  have HK0 : Hid (Below n w ((w.alloc (.cells #[.pointer none, .slice none 0 0] 86)).alloc (.stringIter t 0))) := ((Below.refl _ w).alloc (Nat.le_of_eq hn.symm) _).alloc (by simp <;> omega) _
  rw [hn, hR]
  clear hR hn
  go_enter Tryd.func92, Tryd.ntmps92
  go_wp2
  rw [HN.out]
  go_loopg [4] (t.size + 1) (fun k s4 wx => ∃ (pos : Nat) (acc : List UInt8) (o : Bool), s4 = .bool o ∧ DrW w n t R o k pos acc wx)
  case atStart => exact ⟨0, [], false, rfl, HB0.out, iter_new _ _ HN.out _ _, HK0.out, by rw [List.nil_append]; exact HR.out, by simp, by omega, Nat.zero_le _⟩
  case round =>
    obtain ⟨pos, acc, o, rfl, hD⟩ := hrel
    obtain ⟨f, rfl⟩ : ∃ f, gk = f + 1 := ⟨gk - 1, by have := hD.fuel; have := hD.le; omega⟩
    have hal : acc.length ≤ 6000000000 := by have := hD.len; have := hD.le; omega
    have hit := hD.it
    have HD := Lib.hid hD
    clear hD HB0 HK0 HR
    by_cases hlt : pos < t.size
    · have hnx := fun ty => Lib.run_next_any_at (P := Tryd.prog) wr (n + 1) t pos ty hit hlt
      have HI := Lib.hid (HD.out.bld.iterAt (p' := pos + (Utf8.decode t pos).2) hit (by omega))
      have HIT := Lib.hid (Lib.iterAt_heap wr (n + 1) t pos (pos + (Utf8.decode t pos).2) hit)
      have HV := Lib.hid (dec_valid t pos)
      have hrb : (0 : Int) ≤ (Utf8.decode t pos).1 ∧ ((Utf8.decode t pos).1 : Int) ≤ 1114111 := by have := HV.out; simp only [Lib.validRune, decide_eq_true_eq] at this; omega
      have HRB := Lib.hid hrb
      have hel := encodeRune_len ((Utf8.decode t pos).1 : Int)
      have HEL := Lib.hid hel
      clear hit hrb hel
      cases h39 : (((Utf8.decode t pos).1 : Int) == 39)
      · have hc := fun W => Lib.hid (cont_any _ HV.out W)
        have hW : ∀ W a2, Bld n a2 W → a2.length ≤ 6000000010 → Hid (Calls Tryd.prog 119 #[.pointer (some ⟨n, 0, none⟩), .int .i32 ((Utf8.decode t pos).1 : Int)] W fun e w' => e = .returned (.tuple #[.int .i64 (Lib.runeCells ((Utf8.decode t pos).1 : Int)).length, .nilIface]) ∧ Bld n (a2 ++ Lib.encodeRune ((Utf8.decode t pos).1 : Int)) w' ∧ Below n W w' ∧ Lib.OthersKept 5 (some n) W w') := fun W a2 hb hl =>
          bld_rune _ (by have := HRB.out; omega) (by have := HRB.out; omega) hb (by omega)
        have hSt : ∀ W a2, Bld n a2 W → a2.length ≤ 6000000010 → Hid (Calls Tryd.prog 46 #[.pointer (some ⟨n, 0, none⟩), .int .u8 39] W fun e w' => e = .returned .nilIface ∧ Bld n (a2 ++ [39]) w' ∧ Below n W w' ∧ Lib.OthersKept 5 (some n) W w') := fun W a2 hb hl => bld_byte 39 (by omega) (by omega) hb (by omega)
        cases hs : (specB ((Utf8.decode t pos).1 : Int) != o)
        · have HE := Lib.hid (dressF_same (f := f) hlt h39 hs)
          have hso : specB ((Utf8.decode t pos).1 : Int) = o := by simpa using hs
          rw [hso] at hc HE
          clear hs hso hSt
          go_wp2_with fail
          refine (hc _).out.mono ?_
          rintro e w2 ⟨rfl, hk⟩
          have HW := hW w2 acc (HI.out.keep_nil hk) (by omega)
          have hI2 := (hk.block (n + 1) (Blk.lt' HIT.out) (by simp)).trans HIT.out
          have HI2 := Lib.hid hI2
          have HK2 := Lib.hid (Below.trans (Below.refl n _) (hk.below (B := n) (fun _ h => by cases h) (by have := Blk.lt' HIT.out; omega)))
          clear hk hc hW hI2
          go_wp2_with fail
          refine HW.out.mono ?_
          rintro e w3 ⟨rfl, hb, hk, ho⟩
          have HD3 := Lib.hid (HD.out.step hlt hb (HK2.out.trans hk) (ho (n + 1) _ HI2.out (by simp) (fun c fz h => by cases h)) (by have := HEL.out; omega) HE.out)
          clear hb hk ho HW
          go_wp2
          go_roundg f
          case measure => omega
          case rel => exact ⟨_, _, _, rfl, HD3.out⟩
        · have HE := Lib.hid (dressF_turn (f := f) hlt h39 hs)
          generalize hsb : specB ((Utf8.decode t pos).1 : Int) = sb at *
          obtain rfl : o = !sb := by cases sb <;> cases o <;> simp_all
          clear hs hsb
          cases sb
          all_goals
            go_wp2_with fail
            refine (hc _).out.mono ?_
            rintro e w2 ⟨rfl, hk⟩
            have HS := hSt w2 acc (HI.out.keep_nil hk) (by omega)
            have hI2 := (hk.block (n + 1) (Blk.lt' HIT.out) (by simp)).trans HIT.out
            have HI2 := Lib.hid hI2
            have HK2 := Lib.hid (Below.trans (Below.refl n _) (hk.below (B := n) (fun _ h => by cases h) (by have := Blk.lt' HIT.out; omega)))
            clear hk hc hI2
            go_wp2_with fail
            refine HS.out.mono ?_
            rintro e w3 ⟨rfl, hb, hk, ho⟩
            have HW := hW w3 _ hb (by simp only [List.length_append, List.length_cons, List.length_nil]; omega)
            have hI3 := ho (n + 1) _ HI2.out (by simp) (fun c fz h => by cases h)
            have HI3 := Lib.hid hI3
            have HK3 := Lib.hid (HK2.out.trans hk)
            clear hb hk ho hI3 hW hSt HS
            go_wp2_with fail
            refine HW.out.mono ?_
            rintro e w4 ⟨rfl, hb, hk, ho⟩
            rw [List.append_assoc] at hb
            have HD3 := Lib.hid (HD.out.step hlt hb (HK3.out.trans hk) (ho (n + 1) _ HI3.out (by simp) (fun c fz h => by cases h)) (by have := HEL.out; simp only [List.length_append, List.length_cons, List.length_nil]; omega) HE.out)
            clear hb hk ho HW
            go_wp2
            go_roundg f
            case measure => omega
            case rel => exact ⟨_, _, _, rfl, HD3.out⟩
      · have HE := Lib.hid (dressF_apos (f := f) (o := o) hlt h39)
        have HS := Lib.hid (bld_string ⟨#[39, 39]⟩ HI.out (by show acc.length + 2 ≤ _; omega))
        go_wp2_with (go_at_call 47; refine HS.out.mono ?_; rintro e w2 ⟨rfl, hb, hk, ho⟩)
        have HD3 := Lib.hid (HD.out.step hlt hb hk (ho (n + 1) _ HIT.out (by simp) (fun c fz h => by cases h)) (by show 2 ≤ 6; omega) HE.out)
        go_roundg f
        case measure => omega
        case rel => exact ⟨_, _, _, rfl, HD3.out⟩
    · have hnx := fun ty => Lib.run_next_end_at (P := Tryd.prog) wr (n + 1) t pos ty hit hlt
      have hS : ∀ W a2, Bld n a2 W → Hid (Calls Tryd.prog 50 #[.pointer (some ⟨n, 0, none⟩)] W fun e w' => e = .returned (.string ⟨a2.toArray⟩) ∧ Bld n a2 w' ∧ Below n W w' ∧ Lib.OthersKept 5 (some n) W w') := fun W a2 hb => bld_str hb
      cases o
      · have HE : Hid (acc = R) := by unfold Hid; have := HD.out.eq; rw [dressF_end hlt] at this; simpa using this
        go_wp2_with (go_at_call 50; refine (hS _ acc HD.out.bld).out.mono ?_; rintro e w2 ⟨rfl, hb, hk, ho⟩)
        go_ret
        exact ⟨by rw [← HE.out]; rfl, HD.out.kp.trans hk⟩
      · have HE : Hid (acc ++ [39] = R) := by unfold Hid; have := HD.out.eq; rw [dressF_end hlt] at this; simpa using this
        have HS := Lib.hid (bld_byte 39 (by omega) (by omega) HD.out.bld (by omega))
        go_wp2_with fail
        refine HS.out.mono ?_
        rintro e w2 ⟨rfl, hb, hk, ho⟩
        have HS2 := hS w2 _ hb
        have HK2 := Lib.hid (HD.out.kp.trans hk)
        clear hb hk ho hS HS
        go_wp2_with fail
        refine HS2.out.mono ?_
        rintro e w3 ⟨rfl, hb, hk, ho⟩
        have HK3 := Lib.hid (HK2.out.trans hk)
        clear hb hk ho HS2
        go_wp2
        go_ret
        exact ⟨by rw [← HE.out]; rfl, HK3.out⟩
end Go.Proofs.YtkkglaglnfebjaaDoor
