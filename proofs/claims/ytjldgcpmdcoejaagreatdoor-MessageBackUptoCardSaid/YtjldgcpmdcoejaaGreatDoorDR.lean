/- Walks: strings.IndexRune, IndexAny, LastIndexAny at a few ASCII bytes, whatever the text. -/
import Derived.Test.YtjldgcpmdcoejaaGreatDoorTR
import Derived.Lib.IndexAny
import Derived.Lib.TrimUEq
import Derived.Laws.Runes
import Derived.Laws.RangeString
import Derived.Laws.Strings3
import Derived.Deep.LoopGhost
namespace Go.Proofs.YtjldgcpmdcoejaaGreatDoor
open Go.RowKit

/-- A few ASCII bytes. -/
structure Few (C : ByteArray) : Prop where
  asc : ∀ b ∈ C.data.toList, b.toNat < 128
  n2 : 2 ≤ C.size
  n3 : C.size ≤ 3
theorem Few.at_ {C : ByteArray} (h : Few C) {i : Nat} (hi : i < C.size) : (C[i]'hi).toNat < 128 := h.asc _ (by rw [ByteArray.getElem_eq_getElem_data]; exact Array.getElem_mem_toList (xs := C.data) (by exact hi))
theorem keep_iter (w : World) (s : ByteArray) (i : Nat) : Keep [] w (w.iter s i) := (Keep.refl [] w).alloc _
theorem keep_drewN (w : World) (n : Nat) : Keep [] w (w.drewN n) := (Keep.refl [] w).drewN n

set_option maxHeartbeats 4000000 in
set_option maxRecDepth 100000 in
theorem idxr_err (C : ByteArray) (hC : Few C) (w : World) :
    Calls Tryz.prog 89 #[.string C, .int .i32 65533] w fun e w' => e = .returned (.int .i64 (-1)) ∧ Keep [] w w' := by
  have HC := Lib.hid hC
  clear hC
  go_enter Tryz.func89, Tryz.ntmps89
  go_wp2
  go_loopg [5, 6] C.size (fun g _ _ wx => ∃ i : Nat, i + g = C.size ∧ wx = w.iter C i)
  case atStart => exact ⟨0, by omega, rfl⟩
  case round =>
    obtain ⟨i, hig, rfl⟩ := hrel
    cases gk with
    | zero =>
      obtain rfl : i = C.size := by omega
      have hnx := run_next_end (P := Tryz.prog) w C C.size
      go_wp2
      go_ret
      exact ⟨rfl, keep_iter _ _ _⟩
    | succ g =>
      have hi : i < C.size := by omega
      have hx := HC.out.at_ hi
      obtain ⟨x, hx2⟩ : ∃ x : UInt8, C[i]'hi = x := ⟨_, rfl⟩
      have hnx := fun ty => run_next_ascii (P := Tryz.prog) w C i ty hi hx
      rw [hx2] at hnx hx
      have e1 : ((x.toNat : Int) == 65533) = false := by simp; omega
      clear hx2
      go_wp2
      go_roundg g
      case measure => omega
      case rel => exact ⟨i + 1, by omega, rfl⟩

set_option maxHeartbeats 4000000 in
set_option maxRecDepth 100000 in
theorem idxr_big (C : ByteArray) (hC : Few C) (r : Int) (h0 : 128 ≤ r) (hv : Utf8.valid r = true) (hr : r ≠ 65533) (w : World) :
    Calls Tryz.prog 89 #[.string C, .int .i32 r] w fun e w' => e = .returned (.int .i64 (-1)) ∧ Keep [] w w' := by
  have HC := Lib.hid hC
  have hvr : Lib.validRune r = true := by
    have h := validRune_eq r
    rw [hv] at h
    have h2 := of_decide_eq_true (by exact h.symm)
    unfold Lib.validRune
    simp; omega
  have e1 : (r == 65533) = false := by simpa using hr
  have e2 : decide (r < 128) = false := by simp; omega
  have e3 : (0 : Int) ≤ r := by omega
  obtain ⟨p2, p4, p128⟩ := encode_facts r hv h0
  have HV : ∀ W, Hid (Calls Tryz.prog 130 #[.int .i32 r] W fun e w' => e = .returned (.bool true) ∧ W = w') := fun W => (Tryz.utf8_ValidRune r W).mono fun e w' ⟨h1, h2⟩ => ⟨by rw [h1, hvr], h2.symm⟩
  have n2 := hC.n2
  have n3 := hC.n3
  clear hv hr hvr hC
  go_enter Tryz.func89, Tryz.ntmps89
  obtain ⟨P, hP⟩ : ∃ P, Utf8.encode r = P := ⟨_, rfl⟩
  obtain ⟨m, hm⟩ : ∃ m, P.size = m + 1 := ⟨P.size - 1, by rw [hP] at p2; omega⟩
  obtain ⟨x, hx⟩ : ∃ x : UInt8, P[m]'(by omega) = x := ⟨_, rfl⟩
  have hx8 : 128 ≤ x.toNat := by
    subst hP
    have h := p128 (by omega)
    have e : (Utf8.encode r).size - 1 = m := by omega
    simp only [e] at h
    rw [← hx]; exact h
  rw [hP] at p2 p4
  clear p128
  have hsub : ((m : Int) + 1) - 1 = m := by omega
  have hcv : ∀ W, (convert 21 9 (.int .i32 r)).run Tryz.prog W = .ok (.string P) W := fun W => by rw [run_convert_int_string W _ _ _ _ (by rw [Tryz.underlying21]; rfl) Tryz.underlying9, hP]
  clear hP
  go_wp2_with (go_at_call 130; refine (HV _).out.mono ?_; rintro e w' ⟨rfl, rfl⟩)
  refine wp_scope_straight ?_
  go_wp2
  go_loop [9, 10, 11, 12] (fun i _ _ _ => i = .int .i64 m) (fun _ _ _ _ => 0)
  case atStart => rfl
  case round =>
    subst hrel
    by_cases hlt : m < C.size
    · have hlt' : (m : Int) < C.size := by omega
      have s1 : IntKind.i64.wrap ((m : Int) + 1) = (m : Int) + 1 := IntWalk.i64_in _ (by omega)
      have s2 : (0 : Int) ≤ (m : Int) + 1 := by omega
      have s3 : ((m : Int) + 1).toNat = m + 1 := by omega
      have s4 : (m : Int) + 1 ≤ C.size := by omega
      have hc := HC.out.at_ hlt
      obtain ⟨y, hy⟩ : ∃ y : UInt8, C[m]'hlt = y := ⟨_, rfl⟩
      rw [hy] at hc
      have hne : ((y.toNat : Int) != (x.toNat : Int)) = true := by simp; omega
      have HI : ∀ W, Hid (Calls Tryz.prog 129 #[.string (C.extract (m + 1) C.size), .int .u8 x.toNat] W fun e w' => e = .returned (.int .i64 (-1)) ∧ w' = W) := fun W => (Tryz.strings_IndexByte _ x.toNat W).mono fun e w' ⟨h1, h2⟩ => ⟨by
        rw [h1, ← Lib.firstIdx_eq, firstIdx_ascii C _ _ _ HC.out.asc (by simp; omega)], h2⟩
      go_wp2
      refine wp_scope_straight ?_
      go_wp2
      go_quiet (fail)
      rename_i nq _
      have HKn := Lib.hid (keep_drewN w nq)
      generalize w.drewN nq = W at *
      go_wp2
      go_quiet ((go_at_call 129; exact Calls.quiet_of_same (HI _).out))
      clear s1 s2 s3 s4
      go_wp2
      simp only [Exit.noGoto]
      go_wp2
      simp only [Exit.noGoto]
      go_ret
      exact ⟨rfl, HKn.out.drewN _⟩
    · have hlt' : ¬ (m : Int) < C.size := by omega
      go_wp2
      try simp only [Exit.noGoto]
      go_ret
      exact ⟨rfl, Keep.refl _ _⟩
theorem idxr_no (C : ByteArray) (hC : Few C) (r : Int) (h0 : 128 ≤ r) (hv : Utf8.valid r = true) (w : World) :
    Calls Tryz.prog 89 #[.string C, .int .i32 r] w fun e w' => e = .returned (.int .i64 (-1)) ∧ Keep [] w w' := by
  by_cases hr : r = 65533
  · subst hr; exact idxr_err C hC w
  · exact idxr_big C hC r h0 hv hr w

/-! ### what the decoder gives -/
theorem decN_high {n b0 b1 b2 b3 : Nat} (h : 128 ≤ b0) (hn : 0 < n) : 128 ≤ (Lib.decodeN n b0 b1 b2 b3).1 ∧ ((Lib.decodeN n b0 b1 b2 b3).1 < 55296 ∨ (57344 ≤ (Lib.decodeN n b0 b1 b2 b3).1 ∧ (Lib.decodeN n b0 b1 b2 b3).1 ≤ 1114111)) ∧
    1 ≤ (Lib.decodeN n b0 b1 b2 b3).2 ∧ (Lib.decodeN n b0 b1 b2 b3).2 ≤ n ∧ (Lib.decodeN n b0 b1 b2 b3).2 ≤ 4 ∧ (2 ≤ (Lib.decodeN n b0 b1 b2 b3).2 → 128 ≤ b1) ∧ (3 ≤ (Lib.decodeN n b0 b1 b2 b3).2 → 128 ≤ b2) ∧ (4 ≤ (Lib.decodeN n b0 b1 b2 b3).2 → 128 ≤ b3) := by
  unfold Lib.decodeN
  repeat' split
  all_goals first | (exfalso; omega) | (refine ⟨?_, ?_, ?_, ?_, ?_, ?_, ?_, ?_⟩ <;> simp only <;> omega)
theorem decode_far (s : ByteArray) (i : Nat) (hi : i < s.size) (h : 128 ≤ (s[i]'hi).toNat) : 128 ≤ (Utf8.decode s i).1 ∧ Utf8.valid ((Utf8.decode s i).1 : Nat) = true ∧ 1 ≤ (Utf8.decode s i).2 ∧ i + (Utf8.decode s i).2 ≤ s.size ∧ ∀ j, i ≤ j → j < i + (Utf8.decode s i).2 → ∀ hj : j < s.size, 128 ≤ (s[j]'hj).toNat := by
  rw [Lib.decode_at]
  have h0 : 128 ≤ (s.get! i).toNat := by rw [get!_eq s i hi]; exact h
  obtain ⟨h1, h2, h3, h4, h5, h6, h7, h8⟩ := decN_high (n := s.size - i) (b1 := (s.get! (i + 1)).toNat) (b2 := (s.get! (i + 2)).toNat) (b3 := (s.get! (i + 3)).toNat) h0 (by omega)
  refine ⟨h1, ?_, h3, by omega, fun j hj1 hj2 hj => ?_⟩
  · unfold Utf8.valid
    simp only [Bool.or_eq_true, Bool.and_eq_true, decide_eq_true_eq]
    omega
  · rw [← get!_eq s j hj]
    obtain ⟨k, rfl⟩ : ∃ k, j = i + k := ⟨j - i, by omega⟩
    match k with
    | 0 => exact h0
    | 1 => exact h6 (by omega)
    | 2 => exact h7 (by omega)
    | 3 => exact h8 (by omega)
    | k + 4 => omega
theorem few_not {C : ByteArray} (hC : Few C) {x : UInt8} (h : 128 ≤ x.toNat) : C.data.toList.contains x = false := by
  cases hh : C.data.toList.contains x with
  | false => rfl
  | true => have := hC.asc x (by simpa using hh); omega
theorem list_at {s : ByteArray} {i : Nat} (hi : i < s.size) : s.data.toList[i]? = some (s[i]'hi) := Lib.data_getElem? s i hi

/-! ### a string's iterator, wherever it lies -/
def setIter (W : World) (n : Nat) (s : ByteArray) (p : Nat) : World := { W with heap := W.heap.setIfInBounds n (.stringIter s p) }
theorem setIter_at {W : World} {n : Nat} (s : ByteArray) (p : Nat) (h : n < W.heap.size) : (setIter W n s p).heap[n]? = some (.stringIter s p) := by simp [setIter, h]
theorem setIter_keep (W : World) (n : Nat) (s : ByteArray) (p : Nat) : Keep [n] W (setIter W n s p) :=
  ⟨rfl, rfl, rfl, by simp [setIter], fun k _ hk => by simp [setIter]; rw [Array.getElem?_setIfInBounds_ne (by simp at hk; omega)]⟩
theorem next_at {P : Program} (W : World) (n : Nat) (s : ByteArray) (pos : Nat) (ty : TypeId) (hW : W.heap[n]? = some (.stringIter s pos)) (h : pos < s.size) :
    (Instr.next (.pointer (some ⟨n, 0, none⟩)) true ty).run P W = .ok (.tuple #[.bool true, .int .i64 pos, .int .i32 (Utf8.decode s pos).1]) (setIter W n s (pos + (Utf8.decode s pos).2)) := by
  simp only [Instr.next, getObj, setObj, Sem.run_bind, Sem.run, hW, Result.andThen, h, if_true]
  simp [goInt, setIter]
theorem next_at_end {P : Program} (W : World) (n : Nat) (s : ByteArray) (pos : Nat) (ty : TypeId) (hW : W.heap[n]? = some (.stringIter s pos)) (h : ¬ pos < s.size) :
    (Instr.next (.pointer (some ⟨n, 0, none⟩)) true ty).run P W = .ok (.tuple #[.bool false]) W := by
  simp [Instr.next, getObj, Sem.run, hW, h]

set_option maxHeartbeats 8000000 in
set_option maxRecDepth 1000000 in
/-- strings.IndexAny, at few bytes to look for, in a text of at most 8 bytes. -/
theorem iany_short (s C : ByteArray) (hC : Few C) (w : World) (h8 : s.size ≤ 8) :
    Calls Tryz.prog 63 #[.string s, .string C] w fun e w' => e = .returned (.int .i64 (Lib.indexAny s.data.toList C.data.toList)) ∧ Keep [] w w' := by
  have HC := Lib.hid hC
  have hemp : C.toList.isEmpty = false := not_empty (by have := hC.n2; omega)
  have hn1 : ((C.size : Int) == 1) = false := beq_eq_false_iff_ne.2 (by have := hC.n2; omega)
  have h8z : decide ((8 : Int) < (s.size : Int)) = false := decide_eq_false (by omega)
  have hsl : s.data.toList.length = s.size := by rw [Array.length_toList]; rfl
  have HSL := Lib.hid hsl
  clear hC hsl
  go_enter Tryz.func63, Tryz.ntmps63
  go_wp2
  obtain ⟨n, hn⟩ : ∃ n, w.heap.size = n := ⟨_, rfl⟩
  rw [hn]
  have HN := Lib.hid hn
  have hi0 : (w.iter s 0).heap[n]? = some (.stringIter s 0) := by rw [← hn]; exact World.iter_heap w s 0
  have HI0 := Lib.hid hi0
  have HK0 := Lib.hid (keep_iter w s 0)
  generalize w.iter s 0 = W0 at *
  clear hi0 hn
  go_loopg [9, 10] s.size (fun g _ _ wx => ∃ i : Nat, i ≤ s.size ∧ s.size ≤ i + g ∧ wx.heap[n]? = some (.stringIter s i) ∧ Keep [] w wx ∧ Lib.NoAny s.data.toList C.data.toList i)
  case atStart => exact ⟨0, Nat.zero_le _, by omega, HI0.out, HK0.out, Lib.NoAny.zero _ _⟩
  case round =>
    obtain ⟨i, hi1, hig, hit, hk, hno⟩ := hrel
    have HNO := Lib.hid hno
    have HIT := Lib.hid hit
    have HK := Lib.hid hk
    have hnl : n < wr.heap.size := (Array.getElem?_eq_some_iff.1 hit).1
    clear hno hit hk HI0 HK0
    by_cases hi : i < s.size
    · obtain ⟨g, rfl⟩ : ∃ g, gk = g + 1 := ⟨gk - 1, by omega⟩
      have hnx := fun ty => next_at (P := Tryz.prog) wr n s i ty HIT.out hi
      have hK2 : Keep [] w (setIter wr n s (i + (Utf8.decode s i).2)) := HK.out.trans (setIter_keep wr n s _) (fun x hx => .inr (by simp at hx; have := HN.out; omega))
      have hT2 := setIter_at s (i + (Utf8.decode s i).2) hnl
      have HK2 := Lib.hid hK2
      have HT2 := Lib.hid hT2
      clear hK2 hT2
      generalize setIter wr n s (i + (Utf8.decode s i).2) = W2 at *
      by_cases hx : (s[i]'hi).toNat < 128
      · have hd := Lib.hid (decode_ascii s i hi hx)
        rw [hd.out] at hnx HT2
        simp only at hnx HT2
        have hxl := Lib.hid (list_at hi)
        have hcon := Lib.contains_iff_indexByte C.data.toList (s[i]'hi)
        obtain ⟨x, hxe⟩ : ∃ x : UInt8, s[i]'hi = x := ⟨_, rfl⟩
        rw [hxe] at hnx hcon hxl hx
        have hback : ((x.toNat : Int)).toNat.toUInt8 = x := by simp
        have HR : ∀ W, Hid (Calls Tryz.prog 89 #[.string C, .int .i32 x.toNat] W fun e w' => e = .returned (.int .i64 (Lib.indexByte C.data.toList x)) ∧ W = w') := fun W => (Tryz.strings_IndexRune_ascii C x.toNat W (by omega) (by omega)).mono fun e w' ⟨h1, h2⟩ => ⟨by rw [h1, hback], h2.symm⟩
        clear hd hxe hback
        cases hin : C.data.toList.contains x
        · rw [hin] at hcon
          have hlt : ¬ ((0 : Int) ≤ Lib.indexByte C.data.toList x) := of_decide_eq_false hcon.symm
          have HIN := Lib.hid hin
          clear hcon hin
          go_wp2_with (go_at_call 89; refine (HR _).out.mono ?_; rintro e w' ⟨rfl, rfl⟩)
          go_roundg g
          case measure => omega
          case rel => exact ⟨i + 1, by omega, by omega, HT2.out, HK2.out, HNO.out.succ hxl.out HIN.out⟩
        · rw [hin] at hcon
          have hge : (0 : Int) ≤ Lib.indexByte C.data.toList x := of_decide_eq_true hcon.symm
          have HIN := Lib.hid hin
          clear hcon hin
          go_wp2_with (go_at_call 89; refine (HR _).out.mono ?_; rintro e w' ⟨rfl, rfl⟩)
          go_ret
          exact ⟨by rw [Lib.indexAny_hit HNO.out hxl.out HIN.out]; rfl, HK2.out⟩
      · obtain ⟨d1, d2, d3, d4, d5⟩ := decode_far s i hi (by omega)
        have HNO2 : Hid (Lib.NoAny s.data.toList C.data.toList (i + (Utf8.decode s i).2)) := fun j b hj hb => by
          rcases Nat.lt_or_ge j i with h | h
          · exact HNO.out j b h hb
          · have hjs : j < s.size := by omega
            have := d5 j h hj hjs
            rw [list_at hjs] at hb
            cases hb
            exact few_not HC.out this
        have HR : ∀ W, Hid (Calls Tryz.prog 89 #[.string C, .int .i32 (Utf8.decode s i).1] W fun e w' => e = .returned (.int .i64 (-1)) ∧ Keep [] W w') := fun W => idxr_no C HC.out _ (by omega) d2 W
        clear d5 d2
        generalize (Utf8.decode s i).1 = r at *
        generalize (Utf8.decode s i).2 = m at *
        go_wp2_with (go_at_call 89; refine (HR _).out.mono ?_; rintro e w' ⟨rfl, hk9⟩)
        go_roundg g
        case measure => omega
        case rel => exact ⟨i + m, by omega, by omega, (hk9.block n (Array.getElem?_eq_some_iff.1 HT2.out).1 (by simp)).trans HT2.out, HK2.out.nil hk9, HNO2.out⟩
    · have hnx := fun ty => next_at_end (P := Tryz.prog) wr n s i ty HIT.out hi
      have hie : i = s.size := by omega
      subst hie
      go_wp2
      go_ret
      exact ⟨by rw [Lib.indexAny_none (by rw [HSL.out]; exact HNO.out)]; rfl, HK.out⟩

theorem few_j {C : ByteArray} (hC : Few C) : ∀ (j : Nat) b, C.data.toList[j]? = some b → b.toNat < 128 := fun _ b h => hC.asc b (List.mem_of_getElem? h)
/-- strings.IndexAny, at few bytes to look for, in whatever text. -/
theorem iany_any (s C : ByteArray) (hC : Few C) (w : World) (hs : s.size ≤ 4000000000) :
    Calls Tryz.prog 63 #[.string s, .string C] w fun e w' => e = .returned (.int .i64 (Lib.indexAny s.data.toList C.data.toList)) ∧ Keep [] w w' := by
  rcases Nat.lt_or_ge 8 s.size with h8 | h8
  · exact (Tryz.strings_IndexAny_long (zero_of_info infoSet).1 s C w hC.n2 h8 (by omega) (by have := hC.n3; omega) (few_j hC)).mono fun e w' ⟨h1, h2⟩ => ⟨h1, by rw [h2]; exact ((Keep.refl [] w).alloc _).alloc _⟩
  · exact iany_short s C hC w h8
set_option maxRecDepth 100000 in
set_option maxHeartbeats 400000 in
/-- strings.ContainsAny. -/
theorem cany_any (s C : ByteArray) (hC : Few C) (w : World) (hs : s.size ≤ 4000000000) :
    Calls Tryz.prog 150 #[.string s, .string C] w fun e w' => e = .returned (.bool (decide (0 ≤ Lib.indexAny s.data.toList C.data.toList))) ∧ Keep [] w w' := by
  have H := Lib.hid (iany_any s C hC w hs)
  clear hC
  go_enter Tryz.func150, Tryz.ntmps150
  go_wp2_with (go_at_call 63; refine H.out.mono ?_; rintro e w' ⟨rfl, hk⟩)
  go_ret
  exact ⟨rfl, hk⟩

theorem lastN_none {c : UInt8 → Bool} {l : List UInt8} (h : ∀ (j : Nat) y, l[j]? = some y → c y = false) : l.length - l.reverse.findIdx c = 0 := by
  have : l.reverse.findIdx c = l.reverse.length := List.findIdx_eq_length_of_false fun x hx => by
    obtain ⟨j, hj⟩ := List.getElem?_of_mem (List.mem_reverse.1 hx)
    simpa using h j x hj
  rw [this]; simp
theorem lastN_hit {c : UInt8 → Bool} {l : List UInt8} {i : Nat} {x : UInt8} (hx : l[i]? = some x) (hc : c x = true) (h : ∀ (j : Nat) y, i < j → l[j]? = some y → c y = false) : l.length - l.reverse.findIdx c = i + 1 := by
  have hi := (List.getElem?_eq_some_iff.1 hx).1
  have hl : l = l.take i ++ x :: l.drop (i + 1) := by
    have := List.drop_eq_getElem_cons hi
    rw [(List.getElem?_eq_some_iff.1 hx).2] at this
    rw [← this, List.take_append_drop]
  have hr : l.reverse = (l.drop (i + 1)).reverse ++ x :: (l.take i).reverse := by
    conv => lhs; rw [hl]
    simp
  have hf : l.reverse.findIdx c = (l.drop (i + 1)).length := by
    rw [hr, List.findIdx_append, if_neg (by
      intro hlt
      obtain ⟨y, hy, hcy⟩ := List.findIdx_lt_length.1 hlt
      obtain ⟨j, hj⟩ := List.getElem?_of_mem (List.mem_reverse.1 hy)
      rw [List.getElem?_drop] at hj
      have := h (i + 1 + j) y (by omega) hj
      simp [this] at hcy), List.findIdx_cons, hc]
    simp
  rw [hf, List.length_drop]
  omega
theorem last_far (s : ByteArray) (i : Nat) (hi : 0 < i) (his : i ≤ s.size) (h : ¬ (s[i - 1]'(by omega)).toNat < 128) : 128 ≤ (Lib.decodeLastL (s.data.toList.take i)).1 ∧ Utf8.valid ((Lib.decodeLastL (s.data.toList.take i)).1 : Nat) = true ∧
    1 ≤ (Lib.decodeLastL (s.data.toList.take i)).2 ∧ (Lib.decodeLastL (s.data.toList.take i)).2 ≤ i ∧ ∀ (j : Nat) y, i - (Lib.decodeLastL (s.data.toList.take i)).2 ≤ j → j < i → s.data.toList[j]? = some y → 128 ≤ y.toNat := by
  have hsl : s.data.toList.length = s.size := by rw [Array.length_toList]; rfl
  have hg : s.data.toList.getD (i - 1) 0 = s[i - 1]'(by omega) := by rw [List.getD_eq_getElem?_getD, list_at (by omega)]; rfl
  have one : ∀ (j : Nat) y, i - 1 ≤ j → j < i → s.data.toList[j]? = some y → 128 ≤ y.toNat := fun j y h1 h2 hy => by
    obtain rfl : j = i - 1 := by omega
    rw [list_at (by omega)] at hy
    cases hy
    omega
  rcases Lib.last_cases s.data.toList i hi (by omega) with ⟨h1, _⟩ | ⟨_, h2⟩ | ⟨h1, st, h2, h3, h4⟩
  · rw [hg] at h1; omega
  · rw [h2]; exact ⟨by decide, by decide, by decide, (by show 1 ≤ i; omega), one⟩
  · rw [h3]
    have hl : ((s.data.toList.take i).drop st).length = i - st := by simp; omega
    have hsz : (⟨((s.data.toList.take i).drop st).toArray⟩ : ByteArray).size = i - st := by show Array.size _ = _; simp; omega
    have hdat : (⟨((s.data.toList.take i).drop st).toArray⟩ : ByteArray).data.toList = (s.data.toList.take i).drop st := by simp
    have hat : ∀ j, st ≤ j → j < i → ∀ y, s.data.toList[j]? = some y → (⟨((s.data.toList.take i).drop st).toArray⟩ : ByteArray).data.toList[j - st]? = some y := fun j h1 h2 y hy => by
      rw [hdat, List.getElem?_drop, List.getElem?_take, if_pos (by omega), show st + (j - st) = j by omega]; exact hy
    unfold Lib.decodeL at h3 h4 ⊢
    generalize hT : (⟨((s.data.toList.take i).drop st).toArray⟩ : ByteArray) = T at *
    have h0 : 0 < T.size := by omega
    by_cases hb : (T[0]'h0).toNat < 128
    · have hd := decode_ascii T 0 h0 hb
      rw [hd] at h4
      simp only at h4
      have hst : st = i - 1 := by omega
      have := hat st (Nat.le_refl _) h2 (s[st]'(by omega)) (list_at (by omega))
      rw [Nat.sub_self, list_at h0] at this
      have he : T[0]'h0 = s[st]'(by omega) := Option.some.inj this
      rw [he] at hb
      subst hst
      exact absurd hb h
    · obtain ⟨f1, f2, f3, f4, f5⟩ := decode_far T 0 h0 (by omega)
      refine ⟨f1, f2, f3, by omega, fun j y h5 h6 hy => ?_⟩
      have h7 := hat j (by omega) h6 y hy
      have h8 : j - st < T.size := by omega
      have := f5 (j - st) (Nat.zero_le _) (by omega) h8
      rw [list_at h8] at h7
      rw [Option.some.inj h7] at this
      exact this
end Go.Proofs.YtjldgcpmdcoejaaGreatDoor
