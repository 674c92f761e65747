/- Walks: strings.IndexRune, IndexAny, LastIndexAny at a few ASCII bytes, whatever the text. Walks: strings.LastIndexAny at a few ASCII bytes; ReplaceAll at a quote; dress. Walks: dress of messages: a text as it stands in a message. Walks: vernacularref02.Form, Broken, Right: what they compute, told by the model's decoder. Walks: vernacularref02.Broken, Right and utf.Check: the first broken byte. Walks: isName, isKey, isStyle of messages. Walks: plain of messages, at an argument. Walks: plain of messages: has a part nothing but what its kind has? Walks: right of messages: may parts be? Plain and walks: write of messages: parts in their one form. Walks: write of messages: parts in their one form. Walks: write of messages. Walks: plain of messages, at an argument with a type. -/
import Derived.Test.YtmfoiceofhcicaaGreatDoorTR
import Derived.Lib.IndexAny
import Derived.Lib.TrimUEq
import Derived.Laws.Runes
import Derived.Laws.RangeString
import Derived.Laws.Strings3
import Derived.Deep.LoopGhost
import Derived.Test.YtmfoiceofhcicaaGreatDoorPL
import Derived.Lib.Replace
import Derived.Laws.Concat
import Derived.Deep.RegionHeld3
import Derived.Test.YtmfoiceofhcicaaGreatDoorChecked
import Derived.Test.YtmfoiceofhcicaaGreatDoorUtf
import Derived.WalkKit
import Derived.WalkSpells
import Derived.WalkLawsBesides
import Derived.Lib.Hide
import Derived.Deep.Light
import Derived.Lib.OthersKept
import Derived.Lib.TrimU
import Derived.Test.YtmfoiceofhcicaaGreatDoorPB
import Derived.Lib.ItoaLen
namespace Go.Proofs.YtmfoiceofhcicaaGreatDoor
open Go.RowKit

/-- A few ASCII bytes. -/
structure Few (C : ByteArray) : Prop where
  asc : ∀ b ∈ C.data.toList, b.toNat < 128
  n2 : 2 ≤ C.size
  n3 : C.size ≤ 3
theorem Few.at_ {C : ByteArray} (h : Few C) {i : Nat} (hi : i < C.size) : (C[i]'hi).toNat < 128 := h.asc _ (by rw [ByteArray.getElem_eq_getElem_data]; exact Array.getElem_mem_toList (xs := C.data) (by exact hi))
theorem keep_iter (w : World) (s : ByteArray) (i : Nat) : Keep [] w (w.iter s i) := (Keep.refl [] w).alloc _
theorem keep_drewN (w : World) (n : Nat) : Keep [] w (w.drewN n) := (Keep.refl [] w).drewN n

set_option maxHeartbeats 4000000 in
set_option maxRecDepth 100000 in
theorem idxr_err (C : ByteArray) (hC : Few C) (w : World) :
    Calls Tryz.prog 132 #[.string C, .int .i32 65533] w fun e w' => e = .returned (.int .i64 (-1)) ∧ Keep [] w w' := by
  have HC := Lib.hid hC
  clear hC
  go_enter Tryz.func132, Tryz.ntmps132
  go_wp2
  go_loopg [5, 6] C.size (fun g _ _ wx => ∃ i : Nat, i + g = C.size ∧ wx = w.iter C i)
  case atStart => exact ⟨0, by omega, rfl⟩
  case round =>
    obtain ⟨i, hig, rfl⟩ := hrel
    cases gk with
    | zero =>
      obtain rfl : i = C.size := by omega
      have hnx := run_next_end (P := Tryz.prog) w C C.size
      go_wp2
      go_ret
      exact ⟨rfl, keep_iter _ _ _⟩
    | succ g =>
      have hi : i < C.size := by omega
      have hx := HC.out.at_ hi
      obtain ⟨x, hx2⟩ : ∃ x : UInt8, C[i]'hi = x := ⟨_, rfl⟩
      have hnx := fun ty => run_next_ascii (P := Tryz.prog) w C i ty hi hx
      rw [hx2] at hnx hx
      have e1 : ((x.toNat : Int) == 65533) = false := by simp; omega
      clear hx2
      go_wp2
      go_roundg g
      case measure => omega
      case rel => exact ⟨i + 1, by omega, rfl⟩

set_option maxHeartbeats 4000000 in
set_option maxRecDepth 100000 in
theorem idxr_big (C : ByteArray) (hC : Few C) (r : Int) (h0 : 128 ≤ r) (hv : Utf8.valid r = true) (hr : r ≠ 65533) (w : World) :
    Calls Tryz.prog 132 #[.string C, .int .i32 r] w fun e w' => e = .returned (.int .i64 (-1)) ∧ Keep [] w w' := by
  have HC := Lib.hid hC
  have hvr : Lib.validRune r = true := by
    have h := validRune_eq r
    rw [hv] at h
    have h2 := of_decide_eq_true (by exact h.symm)
    unfold Lib.validRune
    simp; omega
  have e1 : (r == 65533) = false := by simpa using hr
  have e2 : decide (r < 128) = false := by simp; omega
  have e3 : (0 : Int) ≤ r := by omega
  obtain ⟨p2, p4, p128⟩ := encode_facts r hv h0
  have HV : ∀ W, Hid (Calls Tryz.prog 157 #[.int .i32 r] W fun e w' => e = .returned (.bool true) ∧ W = w') := fun W => (Tryz.utf8_ValidRune r W).mono fun e w' ⟨h1, h2⟩ => ⟨by rw [h1, hvr], h2.symm⟩
  have n2 := hC.n2
  have n3 := hC.n3
  clear hv hr hvr hC
  go_enter Tryz.func132, Tryz.ntmps132
  obtain ⟨P, hP⟩ : ∃ P, Utf8.encode r = P := ⟨_, rfl⟩
  obtain ⟨m, hm⟩ : ∃ m, P.size = m + 1 := ⟨P.size - 1, by rw [hP] at p2; omega⟩
  obtain ⟨x, hx⟩ : ∃ x : UInt8, P[m]'(by omega) = x := ⟨_, rfl⟩
  have hx8 : 128 ≤ x.toNat := by
    subst hP
    have h := p128 (by omega)
    have e : (Utf8.encode r).size - 1 = m := by omega
    simp only [e] at h
    rw [← hx]; exact h
  rw [hP] at p2 p4
  clear p128
  have hsub : ((m : Int) + 1) - 1 = m := by omega
  have hcv : ∀ W, (convert 21 9 (.int .i32 r)).run Tryz.prog W = .ok (.string P) W := fun W => by rw [run_convert_int_string W _ _ _ _ (by rw [Tryz.underlying21]; rfl) Tryz.underlying9, hP]
  clear hP
  go_wp2_with (go_at_call 157; refine (HV _).out.mono ?_; rintro e w' ⟨rfl, rfl⟩)
  refine wp_scope_straight ?_
  go_wp2
  go_loop [9, 10, 11, 12] (fun i _ _ _ => i = .int .i64 m) (fun _ _ _ _ => 0)
  case atStart => rfl
  case round =>
    subst hrel
    by_cases hlt : m < C.size
    · have hlt' : (m : Int) < C.size := by omega
      have s1 : IntKind.i64.wrap ((m : Int) + 1) = (m : Int) + 1 := IntWalk.i64_in _ (by omega)
      have s2 : (0 : Int) ≤ (m : Int) + 1 := by omega
      have s3 : ((m : Int) + 1).toNat = m + 1 := by omega
      have s4 : (m : Int) + 1 ≤ C.size := by omega
      have hc := HC.out.at_ hlt
      obtain ⟨y, hy⟩ : ∃ y : UInt8, C[m]'hlt = y := ⟨_, rfl⟩
      rw [hy] at hc
      have hne : ((y.toNat : Int) != (x.toNat : Int)) = true := by simp; omega
      have HI : ∀ W, Hid (Calls Tryz.prog 156 #[.string (C.extract (m + 1) C.size), .int .u8 x.toNat] W fun e w' => e = .returned (.int .i64 (-1)) ∧ w' = W) := fun W => (Tryz.strings_IndexByte _ x.toNat W).mono fun e w' ⟨h1, h2⟩ => ⟨by
        rw [h1, ← Lib.firstIdx_eq, firstIdx_ascii C _ _ _ HC.out.asc (by simp; omega)], h2⟩
      go_wp2
      refine wp_scope_straight ?_
      go_wp2
      go_quiet (fail)
      rename_i nq _
      have HKn := Lib.hid (keep_drewN w nq)
      generalize w.drewN nq = W at *
      go_wp2
      go_quiet ((go_at_call 156; exact Calls.quiet_of_same (HI _).out))
      clear s1 s2 s3 s4
      go_wp2
      simp only [Exit.noGoto]
      go_wp2
      simp only [Exit.noGoto]
      go_ret
      exact ⟨rfl, HKn.out.drewN _⟩
    · have hlt' : ¬ (m : Int) < C.size := by omega
      go_wp2
      try simp only [Exit.noGoto]
      go_ret
      exact ⟨rfl, Keep.refl _ _⟩
theorem idxr_no (C : ByteArray) (hC : Few C) (r : Int) (h0 : 128 ≤ r) (hv : Utf8.valid r = true) (w : World) :
    Calls Tryz.prog 132 #[.string C, .int .i32 r] w fun e w' => e = .returned (.int .i64 (-1)) ∧ Keep [] w w' := by
  by_cases hr : r = 65533
  · subst hr; exact idxr_err C hC w
  · exact idxr_big C hC r h0 hv hr w

/-! ### what the decoder gives -/
theorem decN_high {n b0 b1 b2 b3 : Nat} (h : 128 ≤ b0) (hn : 0 < n) : 128 ≤ (Lib.decodeN n b0 b1 b2 b3).1 ∧ ((Lib.decodeN n b0 b1 b2 b3).1 < 55296 ∨ (57344 ≤ (Lib.decodeN n b0 b1 b2 b3).1 ∧ (Lib.decodeN n b0 b1 b2 b3).1 ≤ 1114111)) ∧
    1 ≤ (Lib.decodeN n b0 b1 b2 b3).2 ∧ (Lib.decodeN n b0 b1 b2 b3).2 ≤ n ∧ (Lib.decodeN n b0 b1 b2 b3).2 ≤ 4 ∧ (2 ≤ (Lib.decodeN n b0 b1 b2 b3).2 → 128 ≤ b1) ∧ (3 ≤ (Lib.decodeN n b0 b1 b2 b3).2 → 128 ≤ b2) ∧ (4 ≤ (Lib.decodeN n b0 b1 b2 b3).2 → 128 ≤ b3) := by
  unfold Lib.decodeN
  repeat' split
  all_goals first | (exfalso; omega) | (refine ⟨?_, ?_, ?_, ?_, ?_, ?_, ?_, ?_⟩ <;> simp only <;> omega)
theorem decode_far (s : ByteArray) (i : Nat) (hi : i < s.size) (h : 128 ≤ (s[i]'hi).toNat) : 128 ≤ (Utf8.decode s i).1 ∧ Utf8.valid ((Utf8.decode s i).1 : Nat) = true ∧ 1 ≤ (Utf8.decode s i).2 ∧ i + (Utf8.decode s i).2 ≤ s.size ∧ ∀ j, i ≤ j → j < i + (Utf8.decode s i).2 → ∀ hj : j < s.size, 128 ≤ (s[j]'hj).toNat := by
  rw [Lib.decode_at]
  have h0 : 128 ≤ (s.get! i).toNat := by rw [get!_eq s i hi]; exact h
  obtain ⟨h1, h2, h3, h4, h5, h6, h7, h8⟩ := decN_high (n := s.size - i) (b1 := (s.get! (i + 1)).toNat) (b2 := (s.get! (i + 2)).toNat) (b3 := (s.get! (i + 3)).toNat) h0 (by omega)
  refine ⟨h1, ?_, h3, by omega, fun j hj1 hj2 hj => ?_⟩
  · unfold Utf8.valid
    simp only [Bool.or_eq_true, Bool.and_eq_true, decide_eq_true_eq]
    omega
  · rw [← get!_eq s j hj]
    obtain ⟨k, rfl⟩ : ∃ k, j = i + k := ⟨j - i, by omega⟩
    match k with
    | 0 => exact h0
    | 1 => exact h6 (by omega)
    | 2 => exact h7 (by omega)
    | 3 => exact h8 (by omega)
    | k + 4 => omega
theorem few_not {C : ByteArray} (hC : Few C) {x : UInt8} (h : 128 ≤ x.toNat) : C.data.toList.contains x = false := by
  cases hh : C.data.toList.contains x with
  | false => rfl
  | true => have := hC.asc x (by simpa using hh); omega
theorem list_at {s : ByteArray} {i : Nat} (hi : i < s.size) : s.data.toList[i]? = some (s[i]'hi) := Lib.data_getElem? s i hi

/-! ### a string's iterator, wherever it lies -/
def setIter (W : World) (n : Nat) (s : ByteArray) (p : Nat) : World := { W with heap := W.heap.setIfInBounds n (.stringIter s p) }
theorem setIter_at {W : World} {n : Nat} (s : ByteArray) (p : Nat) (h : n < W.heap.size) : (setIter W n s p).heap[n]? = some (.stringIter s p) := by simp [setIter, h]
theorem setIter_keep (W : World) (n : Nat) (s : ByteArray) (p : Nat) : Keep [n] W (setIter W n s p) :=
  ⟨rfl, rfl, rfl, by simp [setIter], fun k _ hk => by simp [setIter]; rw [Array.getElem?_setIfInBounds_ne (by simp at hk; omega)]⟩
theorem next_at {P : Program} (W : World) (n : Nat) (s : ByteArray) (pos : Nat) (ty : TypeId) (hW : W.heap[n]? = some (.stringIter s pos)) (h : pos < s.size) :
    (Instr.next (.pointer (some ⟨n, 0, none⟩)) true ty).run P W = .ok (.tuple #[.bool true, .int .i64 pos, .int .i32 (Utf8.decode s pos).1]) (setIter W n s (pos + (Utf8.decode s pos).2)) := by
  simp only [Instr.next, getObj, setObj, Sem.run_bind, Sem.run, hW, Result.andThen, h, if_true]
  simp [goInt, setIter]
theorem next_at_end {P : Program} (W : World) (n : Nat) (s : ByteArray) (pos : Nat) (ty : TypeId) (hW : W.heap[n]? = some (.stringIter s pos)) (h : ¬ pos < s.size) :
    (Instr.next (.pointer (some ⟨n, 0, none⟩)) true ty).run P W = .ok (.tuple #[.bool false]) W := by
  simp [Instr.next, getObj, Sem.run, hW, h]

set_option maxHeartbeats 8000000 in
set_option maxRecDepth 1000000 in
/-- strings.IndexAny, at few bytes to look for, in a text of at most 8 bytes. -/
theorem iany_short (s C : ByteArray) (hC : Few C) (w : World) (h8 : s.size ≤ 8) :
    Calls Tryz.prog 108 #[.string s, .string C] w fun e w' => e = .returned (.int .i64 (Lib.indexAny s.data.toList C.data.toList)) ∧ Keep [] w w' := by
  have HC := Lib.hid hC
  have hemp : C.toList.isEmpty = false := not_empty (by have := hC.n2; omega)
  have hn1 : ((C.size : Int) == 1) = false := beq_eq_false_iff_ne.2 (by have := hC.n2; omega)
  have h8z : decide ((8 : Int) < (s.size : Int)) = false := decide_eq_false (by omega)
  have hsl : s.data.toList.length = s.size := by rw [Array.length_toList]; rfl
  have HSL := Lib.hid hsl
  clear hC hsl
  go_enter Tryz.func108, Tryz.ntmps108
  go_wp2
  obtain ⟨n, hn⟩ : ∃ n, w.heap.size = n := ⟨_, rfl⟩
  rw [hn]
  have HN := Lib.hid hn
  have hi0 : (w.iter s 0).heap[n]? = some (.stringIter s 0) := by rw [← hn]; exact World.iter_heap w s 0
  have HI0 := Lib.hid hi0
  have HK0 := Lib.hid (keep_iter w s 0)
  generalize w.iter s 0 = W0 at *
  clear hi0 hn
  go_loopg [9, 10] s.size (fun g _ _ wx => ∃ i : Nat, i ≤ s.size ∧ s.size ≤ i + g ∧ wx.heap[n]? = some (.stringIter s i) ∧ Keep [] w wx ∧ Lib.NoAny s.data.toList C.data.toList i)
  case atStart => exact ⟨0, Nat.zero_le _, by omega, HI0.out, HK0.out, Lib.NoAny.zero _ _⟩
  case round =>
    obtain ⟨i, hi1, hig, hit, hk, hno⟩ := hrel
    have HNO := Lib.hid hno
    have HIT := Lib.hid hit
    have HK := Lib.hid hk
    have hnl : n < wr.heap.size := (Array.getElem?_eq_some_iff.1 hit).1
    clear hno hit hk HI0 HK0
    by_cases hi : i < s.size
    · obtain ⟨g, rfl⟩ : ∃ g, gk = g + 1 := ⟨gk - 1, by omega⟩
      have hnx := fun ty => next_at (P := Tryz.prog) wr n s i ty HIT.out hi
      have hK2 : Keep [] w (setIter wr n s (i + (Utf8.decode s i).2)) := HK.out.trans (setIter_keep wr n s _) (fun x hx => .inr (by simp at hx; have := HN.out; omega))
      have hT2 := setIter_at s (i + (Utf8.decode s i).2) hnl
      have HK2 := Lib.hid hK2
      have HT2 := Lib.hid hT2
      clear hK2 hT2
      generalize setIter wr n s (i + (Utf8.decode s i).2) = W2 at *
      by_cases hx : (s[i]'hi).toNat < 128
      · have hd := Lib.hid (decode_ascii s i hi hx)
        rw [hd.out] at hnx HT2
        simp only at hnx HT2
        have hxl := Lib.hid (list_at hi)
        have hcon := Lib.contains_iff_indexByte C.data.toList (s[i]'hi)
        obtain ⟨x, hxe⟩ : ∃ x : UInt8, s[i]'hi = x := ⟨_, rfl⟩
        rw [hxe] at hnx hcon hxl hx
        have hback : ((x.toNat : Int)).toNat.toUInt8 = x := by simp
        have HR : ∀ W, Hid (Calls Tryz.prog 132 #[.string C, .int .i32 x.toNat] W fun e w' => e = .returned (.int .i64 (Lib.indexByte C.data.toList x)) ∧ W = w') := fun W => (Tryz.strings_IndexRune_ascii C x.toNat W (by omega) (by omega)).mono fun e w' ⟨h1, h2⟩ => ⟨by rw [h1, hback], h2.symm⟩
        clear hd hxe hback
        cases hin : C.data.toList.contains x
        · rw [hin] at hcon
          have hlt : ¬ ((0 : Int) ≤ Lib.indexByte C.data.toList x) := of_decide_eq_false hcon.symm
          have HIN := Lib.hid hin
          clear hcon hin
          go_wp2_with (go_at_call 132; refine (HR _).out.mono ?_; rintro e w' ⟨rfl, rfl⟩)
          go_roundg g
          case measure => omega
          case rel => exact ⟨i + 1, by omega, by omega, HT2.out, HK2.out, HNO.out.succ hxl.out HIN.out⟩
        · rw [hin] at hcon
          have hge : (0 : Int) ≤ Lib.indexByte C.data.toList x := of_decide_eq_true hcon.symm
          have HIN := Lib.hid hin
          clear hcon hin
          go_wp2_with (go_at_call 132; refine (HR _).out.mono ?_; rintro e w' ⟨rfl, rfl⟩)
          go_ret
          exact ⟨by rw [Lib.indexAny_hit HNO.out hxl.out HIN.out]; rfl, HK2.out⟩
      · obtain ⟨d1, d2, d3, d4, d5⟩ := decode_far s i hi (by omega)
        have HNO2 : Hid (Lib.NoAny s.data.toList C.data.toList (i + (Utf8.decode s i).2)) := fun j b hj hb => by
          rcases Nat.lt_or_ge j i with h | h
          · exact HNO.out j b h hb
          · have hjs : j < s.size := by omega
            have := d5 j h hj hjs
            rw [list_at hjs] at hb
            cases hb
            exact few_not HC.out this
        have HR : ∀ W, Hid (Calls Tryz.prog 132 #[.string C, .int .i32 (Utf8.decode s i).1] W fun e w' => e = .returned (.int .i64 (-1)) ∧ Keep [] W w') := fun W => idxr_no C HC.out _ (by omega) d2 W
        clear d5 d2
        generalize (Utf8.decode s i).1 = r at *
        generalize (Utf8.decode s i).2 = m at *
        go_wp2_with (go_at_call 132; refine (HR _).out.mono ?_; rintro e w' ⟨rfl, hk9⟩)
        go_roundg g
        case measure => omega
        case rel => exact ⟨i + m, by omega, by omega, (hk9.block n (Array.getElem?_eq_some_iff.1 HT2.out).1 (by simp)).trans HT2.out, HK2.out.nil hk9, HNO2.out⟩
    · have hnx := fun ty => next_at_end (P := Tryz.prog) wr n s i ty HIT.out hi
      have hie : i = s.size := by omega
      subst hie
      go_wp2
      go_ret
      exact ⟨by rw [Lib.indexAny_none (by rw [HSL.out]; exact HNO.out)]; rfl, HK.out⟩

theorem few_j {C : ByteArray} (hC : Few C) : ∀ (j : Nat) b, C.data.toList[j]? = some b → b.toNat < 128 := fun _ b h => hC.asc b (List.mem_of_getElem? h)
/-- strings.IndexAny, at few bytes to look for, in whatever text. -/
theorem iany_any (s C : ByteArray) (hC : Few C) (w : World) (hs : s.size ≤ 4000000000) :
    Calls Tryz.prog 108 #[.string s, .string C] w fun e w' => e = .returned (.int .i64 (Lib.indexAny s.data.toList C.data.toList)) ∧ Keep [] w w' := by
  rcases Nat.lt_or_ge 8 s.size with h8 | h8
  · exact (Tryz.strings_IndexAny_long (zero_of_info infoSet).1 s C w hC.n2 h8 (by omega) (by have := hC.n3; omega) (few_j hC)).mono fun e w' ⟨h1, h2⟩ => ⟨h1, by rw [h2]; exact ((Keep.refl [] w).alloc _).alloc _⟩
  · exact iany_short s C hC w h8
set_option maxRecDepth 100000 in
set_option maxHeartbeats 400000 in
/-- strings.ContainsAny. -/
theorem cany_any (s C : ByteArray) (hC : Few C) (w : World) (hs : s.size ≤ 4000000000) :
    Calls Tryz.prog 126 #[.string s, .string C] w fun e w' => e = .returned (.bool (decide (0 ≤ Lib.indexAny s.data.toList C.data.toList))) ∧ Keep [] w w' := by
  have H := Lib.hid (iany_any s C hC w hs)
  clear hC
  go_enter Tryz.func126, Tryz.ntmps126
  go_wp2_with (go_at_call 108; refine H.out.mono ?_; rintro e w' ⟨rfl, hk⟩)
  go_ret
  exact ⟨rfl, hk⟩

theorem lastN_none {c : UInt8 → Bool} {l : List UInt8} (h : ∀ (j : Nat) y, l[j]? = some y → c y = false) : l.length - l.reverse.findIdx c = 0 := by
  have : l.reverse.findIdx c = l.reverse.length := List.findIdx_eq_length_of_false fun x hx => by
    obtain ⟨j, hj⟩ := List.getElem?_of_mem (List.mem_reverse.1 hx)
    simpa using h j x hj
  rw [this]; simp
theorem lastN_hit {c : UInt8 → Bool} {l : List UInt8} {i : Nat} {x : UInt8} (hx : l[i]? = some x) (hc : c x = true) (h : ∀ (j : Nat) y, i < j → l[j]? = some y → c y = false) : l.length - l.reverse.findIdx c = i + 1 := by
  have hi := (List.getElem?_eq_some_iff.1 hx).1
  have hl : l = l.take i ++ x :: l.drop (i + 1) := by
    have := List.drop_eq_getElem_cons hi
    rw [(List.getElem?_eq_some_iff.1 hx).2] at this
    rw [← this, List.take_append_drop]
  have hr : l.reverse = (l.drop (i + 1)).reverse ++ x :: (l.take i).reverse := by
    conv => lhs; rw [hl]
    simp
  have hf : l.reverse.findIdx c = (l.drop (i + 1)).length := by
    rw [hr, List.findIdx_append, if_neg (by
      intro hlt
      obtain ⟨y, hy, hcy⟩ := List.findIdx_lt_length.1 hlt
      obtain ⟨j, hj⟩ := List.getElem?_of_mem (List.mem_reverse.1 hy)
      rw [List.getElem?_drop] at hj
      have := h (i + 1 + j) y (by omega) hj
      simp [this] at hcy), List.findIdx_cons, hc]
    simp
  rw [hf, List.length_drop]
  omega
theorem last_far (s : ByteArray) (i : Nat) (hi : 0 < i) (his : i ≤ s.size) (h : ¬ (s[i - 1]'(by omega)).toNat < 128) : 128 ≤ (Lib.decodeLastL (s.data.toList.take i)).1 ∧ Utf8.valid ((Lib.decodeLastL (s.data.toList.take i)).1 : Nat) = true ∧
    1 ≤ (Lib.decodeLastL (s.data.toList.take i)).2 ∧ (Lib.decodeLastL (s.data.toList.take i)).2 ≤ i ∧ ∀ (j : Nat) y, i - (Lib.decodeLastL (s.data.toList.take i)).2 ≤ j → j < i → s.data.toList[j]? = some y → 128 ≤ y.toNat := by
  have hsl : s.data.toList.length = s.size := by rw [Array.length_toList]; rfl
  have hg : s.data.toList.getD (i - 1) 0 = s[i - 1]'(by omega) := by rw [List.getD_eq_getElem?_getD, list_at (by omega)]; rfl
  have one : ∀ (j : Nat) y, i - 1 ≤ j → j < i → s.data.toList[j]? = some y → 128 ≤ y.toNat := fun j y h1 h2 hy => by
    obtain rfl : j = i - 1 := by omega
    rw [list_at (by omega)] at hy
    cases hy
    omega
  rcases Lib.last_cases s.data.toList i hi (by omega) with ⟨h1, _⟩ | ⟨_, h2⟩ | ⟨h1, st, h2, h3, h4⟩
  · rw [hg] at h1; omega
  · rw [h2]; exact ⟨by decide, by decide, by decide, (by show 1 ≤ i; omega), one⟩
  · rw [h3]
    have hl : ((s.data.toList.take i).drop st).length = i - st := by simp; omega
    have hsz : (⟨((s.data.toList.take i).drop st).toArray⟩ : ByteArray).size = i - st := by show Array.size _ = _; simp; omega
    have hdat : (⟨((s.data.toList.take i).drop st).toArray⟩ : ByteArray).data.toList = (s.data.toList.take i).drop st := by simp
    have hat : ∀ j, st ≤ j → j < i → ∀ y, s.data.toList[j]? = some y → (⟨((s.data.toList.take i).drop st).toArray⟩ : ByteArray).data.toList[j - st]? = some y := fun j h1 h2 y hy => by
      rw [hdat, List.getElem?_drop, List.getElem?_take, if_pos (by omega), show st + (j - st) = j by omega]; exact hy
    unfold Lib.decodeL at h3 h4 ⊢
    generalize hT : (⟨((s.data.toList.take i).drop st).toArray⟩ : ByteArray) = T at *
    have h0 : 0 < T.size := by omega
    by_cases hb : (T[0]'h0).toNat < 128
    · have hd := decode_ascii T 0 h0 hb
      rw [hd] at h4
      simp only at h4
      have hst : st = i - 1 := by omega
      have := hat st (Nat.le_refl _) h2 (s[st]'(by omega)) (list_at (by omega))
      rw [Nat.sub_self, list_at h0] at this
      have he : T[0]'h0 = s[st]'(by omega) := Option.some.inj this
      rw [he] at hb
      subst hst
      exact absurd hb h
    · obtain ⟨f1, f2, f3, f4, f5⟩ := decode_far T 0 h0 (by omega)
      refine ⟨f1, f2, f3, by omega, fun j y h5 h6 hy => ?_⟩
      have h7 := hat j (by omega) h6 y hy
      have h8 : j - st < T.size := by omega
      have := f5 (j - st) (Nat.zero_le _) (by omega) h8
      rw [list_at h8] at h7
      rw [Option.some.inj h7] at this
      exact this
end Go.Proofs.YtmfoiceofhcicaaGreatDoor

namespace Go.Proofs.YtmfoiceofhcicaaGreatDoor
open Go.RowKit

/-- Behind where the last byte of C stands; 0: nowhere. -/
def lastC (C : ByteArray) (l : List UInt8) : Nat := l.length - l.reverse.findIdx C.data.toList.contains
set_option maxHeartbeats 8000000 in
set_option maxRecDepth 1000000 in
/-- strings.LastIndexAny, at few bytes to look for, in a text of at most 8 bytes. -/
theorem lany_short (s C : ByteArray) (hC : Few C) (w : World) {B : Nat} (hE : Env B w) (h8 : s.size ≤ 8) (hs1 : s.size ≠ 1) :
    Calls Tryz.prog 109 #[.string s, .string C] w fun e w' => e = .returned (.int .i64 ((lastC C s.data.toList : Nat) - 1)) ∧ Keep [] w w' := by
  have HC := Lib.hid hC
  have HE := Lib.hid hE
  have hemp : C.toList.isEmpty = false := not_empty (by have := hC.n2; omega)
  have hn1 : ((C.size : Int) == 1) = false := beq_eq_false_iff_ne.2 (by have := hC.n2; omega)
  have hn2 : ((s.size : Int) == 1) = false := beq_eq_false_iff_ne.2 (by omega)
  have h8z : decide ((8 : Int) < (s.size : Int)) = false := decide_eq_false (by omega)
  clear hC hE hs1
  have HU : ∀ W, Hid (Calls Tryz.prog 133 #[.int .i64 s.size] W fun e w' => e = .returned (.bool false) ∧ W = w') := fun W => (Tryz.strings_shouldUseASCIISet s.size W).mono fun e w' ⟨h1, h2⟩ => ⟨by rw [h1, h8z], h2.symm⟩
  go_enter Tryz.func109, Tryz.ntmps109
  go_wp2_with (go_at_call 133; refine (HU _).out.mono ?_; rintro e w' ⟨rfl, rfl⟩)
  go_loopw [13, 14, 15] (fun i _ _ wx => ∃ k : Nat, k ≤ s.size ∧ i = .int .i64 k ∧ Keep [] w wx ∧ ∀ (j : Nat) y, k ≤ j → s.data.toList[j]? = some y → C.data.toList.contains y = false) (fun i _ _ _ => (intOf i).toNat)
  case atStart => exact ⟨s.size, Nat.le_refl _, rfl, Keep.refl _ _, fun j y h1 h2 => by
    have := (List.getElem?_eq_some_iff.1 h2).1
    rw [Array.length_toList] at this
    exact absurd this (Nat.not_lt.2 h1)⟩
  case round =>
    obtain ⟨k, hk, rfl, hK, hno⟩ := hrel
    have HK := Lib.hid hK
    have HNO := Lib.hid hno
    clear hK hno
    by_cases hk0 : 0 < k
    · have hk0' : (0 : Int) < (k : Int) := by omega
      have s1 : (0 : Int) ≤ (k : Int) := by omega
      have s2 : (k : Int) ≤ s.size := by omega
      have hdat : (s.extract 0 k).data.toList = s.data.toList.take k := by simp [ByteArray.data_extract]
      have HD := Lib.hid (Tryz.utf8_DecodeLastRuneInString (s.extract 0 k) wr (by rw [ByteArray.size_extract]; omega) (HE.out.keep HK.out (by simp)).tabs)
      rw [hdat] at HD
      by_cases hx : (s[k - 1]'(by omega)).toNat < 128
      · have hd : Lib.decodeLastL (s.data.toList.take k) = ((s[k - 1]'(by omega)).toNat, 1) := by
          have hg : s.data.toList.getD (k - 1) 0 = s[k - 1]'(by omega) := by rw [List.getD_eq_getElem?_getD, list_at (by omega)]; rfl
          rcases Lib.last_cases s.data.toList k hk0 (by rw [Array.length_toList]; exact hk) with ⟨_, h2⟩ | ⟨h1, _⟩ | ⟨h1, _⟩
          · rw [h2, hg]
          · rw [hg] at h1; omega
          · rw [hg] at h1; omega
        rw [hd] at HD
        have hxl := Lib.hid (list_at (s := s) (i := k - 1) (by omega))
        have hcon := Lib.contains_iff_indexByte C.data.toList (s[k - 1]'(by omega))
        obtain ⟨x, hxe⟩ : ∃ x : UInt8, s[k - 1]'(by omega) = x := ⟨_, rfl⟩
        rw [hxe] at HD hcon hxl hx
        have hback : ((x.toNat : Int)).toNat.toUInt8 = x := by simp
        have HR : ∀ W, Hid (Calls Tryz.prog 132 #[.string C, .int .i32 x.toNat] W fun e w' => e = .returned (.int .i64 (Lib.indexByte C.data.toList x)) ∧ W = w') := fun W => (Tryz.strings_IndexRune_ascii C x.toNat W (by omega) (by omega)).mono fun e w' ⟨h1, h2⟩ => ⟨by rw [h1, hback], h2.symm⟩
        clear hd hxe hback hdat
        have s3 : ((k - 1 : Nat) : Int) = (k : Int) - 1 := by omega
        cases hin : C.data.toList.contains x
        · rw [hin] at hcon
          have hlt : ¬ ((0 : Int) ≤ Lib.indexByte C.data.toList x) := of_decide_eq_false hcon.symm
          have HIN := Lib.hid hin
          clear hcon hin s3
          go_wp2_with (first | (go_at_call 136; refine HD.out.mono ?_; rintro e w2 ⟨rfl, hb2⟩; have HK2 := Lib.hid (HK.out.nil (Keep.of_below hb2))) | (go_at_call 132; refine (HR _).out.mono ?_; rintro e w' ⟨rfl, rfl⟩))
          go_roundw
          case rel => exact ⟨k - 1, by omega, by congr 1; omega, HK2.out, fun j y hj hy => by
            rcases Nat.lt_or_ge j k with h | h
            · obtain rfl : j = k - 1 := by omega
              rw [hxl.out] at hy
              cases hy
              exact HIN.out
            · exact HNO.out j y h hy⟩
          case measure => simp [intOf]; omega
        · rw [hin] at hcon
          have hge : (0 : Int) ≤ Lib.indexByte C.data.toList x := of_decide_eq_true hcon.symm
          have HIN := Lib.hid hin
          clear hcon hin s3
          go_wp2_with (first | (go_at_call 136; refine HD.out.mono ?_; rintro e w2 ⟨rfl, hb2⟩; have HK2 := Lib.hid (HK.out.nil (Keep.of_below hb2))) | (go_at_call 132; refine (HR _).out.mono ?_; rintro e w' ⟨rfl, rfl⟩))
          go_ret
          have hL : lastC C s.data.toList = k := by
            have := lastN_hit (c := C.data.toList.contains) hxl.out HIN.out (fun j y hj hy => HNO.out j y (by omega) hy)
            unfold lastC
            omega
          exact ⟨by rw [hL]; rfl, HK2.out⟩
      · obtain ⟨d1, d2, d3, d4, d5⟩ := last_far s k hk0 hk hx
        have HNO2 : Hid (∀ (j : Nat) y, k - (Lib.decodeLastL (s.data.toList.take k)).2 ≤ j → s.data.toList[j]? = some y → C.data.toList.contains y = false) := fun j y hj hy => by
          rcases Nat.lt_or_ge j k with h | h
          · exact few_not HC.out (d5 j y hj h hy)
          · exact HNO.out j y h hy
        have HR : ∀ W, Hid (Calls Tryz.prog 132 #[.string C, .int .i32 (Lib.decodeLastL (s.data.toList.take k)).1] W fun e w' => e = .returned (.int .i64 (-1)) ∧ Keep [] W w') := fun W => idxr_no C HC.out _ (by omega) d2 W
        clear d5 d2 hdat
        generalize (Lib.decodeLastL (s.data.toList.take k)).1 = r at *
        generalize (Lib.decodeLastL (s.data.toList.take k)).2 = m at *
        go_wp2_with (first | (go_at_call 136; refine HD.out.mono ?_; rintro e w2 ⟨rfl, hb2⟩; have HK2 := Lib.hid (HK.out.nil (Keep.of_below hb2))) | (go_at_call 132; refine (HR _).out.mono ?_; rintro e w' ⟨rfl, hk9⟩))
        go_roundw
        case rel => exact ⟨k - m, by omega, by congr 1; omega, HK2.out.nil hk9, HNO2.out⟩
        case measure => simp [intOf]; omega
    · obtain rfl : k = 0 := by omega
      go_wp2
      go_ret
      have hL : lastC C s.data.toList = 0 := lastN_none (c := C.data.toList.contains) (fun j y hy => HNO.out j y (Nat.zero_le _) hy)
      exact ⟨by rw [hL]; rfl, HK.out⟩

theorem list_one {s : ByteArray} (h : s.size = 1) : s.data.toList = [s[0]'(by omega)] := by
  have hl : s.data.toList.length = 1 := by rw [Array.length_toList]; exact h
  match hh : s.data.toList, hl with
  | [a], _ =>
    have := list_at (s := s) (i := 0) (by omega)
    rw [hh] at this
    simp at this
    rw [this]
set_option maxHeartbeats 1000000 in
set_option maxRecDepth 1000000 in
theorem lany_one (s C : ByteArray) (hC : Few C) (w : World) (hs1 : s.size = 1) :
    Calls Tryz.prog 109 #[.string s, .string C] w fun e w' => e = .returned (.int .i64 ((lastC C s.data.toList : Nat) - 1)) ∧ Keep [] w w' := by
  have hemp : C.toList.isEmpty = false := not_empty (by have := hC.n2; omega)
  have hn2 : ((s.size : Int) == 1) = true := by rw [hs1]; rfl
  have hsz : (0 : Int) < (s.size : Int) := by omega
  have hcon := Lib.contains_iff_indexByte C.data.toList (s[0]'(by omega))
  have HL : Hid (lastC C s.data.toList = if C.data.toList.contains (s[0]'(by omega)) then 1 else 0) := by
    have hout : ∀ (j : Nat) y, 0 < j → s.data.toList[j]? = some y → C.data.toList.contains y = false := fun j y hj hy => by
      have := (List.getElem?_eq_some_iff.1 hy).1
      rw [list_one hs1] at this
      simp at this
      omega
    cases hh : C.data.toList.contains (s[0]'(by omega))
    · exact lastN_none (c := C.data.toList.contains) (fun j y hy => by
        rcases Nat.eq_zero_or_pos j with h | h
        · subst h
          rw [list_at (by omega)] at hy
          cases hy
          exact hh
        · exact hout j y h hy)
    · exact lastN_hit (c := C.data.toList.contains) (i := 0) (list_at (by omega)) hh hout
  have hf := few_not hC (x := s[0]'(by omega))
  have HN : ∀ W, Hid (Calls Tryz.prog 132 #[.string C, .int .i32 65533] W fun e w' => e = .returned (.int .i64 (-1)) ∧ Keep [] W w') := fun W => idxr_err C hC W
  obtain ⟨x, hxe⟩ : ∃ x : UInt8, s[0]'(by omega) = x := ⟨_, rfl⟩
  have hlt := x.toNat_lt
  rw [hxe] at HL hcon hf
  have hback : ((x.toNat : Int)).toNat.toUInt8 = x := by simp
  have HR : x.toNat < 128 → ∀ W, Hid (Calls Tryz.prog 132 #[.string C, .int .i32 x.toNat] W fun e w' => e = .returned (.int .i64 (Lib.indexByte C.data.toList x)) ∧ W = w') := fun h W => (Tryz.strings_IndexRune_ascii C x.toNat W (by omega) (by omega)).mono fun e w' ⟨h1, h2⟩ => ⟨by rw [h1, hback], h2.symm⟩
  have hx0 : s[0]'(by omega) = x := hxe
  clear hback hC
  by_cases h8 : x.toNat < 128
  · have HR2 := HR h8
    cases hin : C.data.toList.contains x
    · rw [hin] at hcon HL
      have hlt2 : ¬ ((0 : Int) ≤ Lib.indexByte C.data.toList x) := of_decide_eq_false hcon.symm
      clear hcon hin HR hf
      go_enter Tryz.func109, Tryz.ntmps109
      go_wp2_with (go_at_call 132; refine (HR2 _).out.mono ?_; rintro e w' ⟨rfl, rfl⟩)
      go_ret
      exact ⟨by rw [HL.out]; rfl, Keep.refl _ _⟩
    · rw [hin] at hcon HL
      have hge : (0 : Int) ≤ Lib.indexByte C.data.toList x := of_decide_eq_true hcon.symm
      clear hcon hin HR hf
      go_enter Tryz.func109, Tryz.ntmps109
      go_wp2_with (go_at_call 132; refine (HR2 _).out.mono ?_; rintro e w' ⟨rfl, rfl⟩)
      go_ret
      exact ⟨by rw [HL.out]; rfl, Keep.refl _ _⟩
  · rw [hf (by omega)] at HL
    clear HR hf hcon
    have h8' : (128 : Int) ≤ (x.toNat : Int) := by omega
    go_enter Tryz.func109, Tryz.ntmps109
    go_wp2_with (go_at_call 132; refine (HN _).out.mono ?_; rintro e w' ⟨rfl, hk⟩)
    go_ret
    exact ⟨by rw [HL.out]; rfl, hk⟩
set_option maxHeartbeats 8000000 in
set_option maxRecDepth 1000000 in
/-- strings.LastIndexAny, in a text of more than 8 bytes. -/
theorem lany_long (s C : ByteArray) (hC : Few C) (w : World) (h8 : 8 < s.size) (hs : s.size ≤ 4000000000) :
    Calls Tryz.prog 109 #[.string s, .string C] w fun e w' => e = .returned (.int .i64 ((lastC C s.data.toList : Nat) - 1)) ∧ Keep [] w w' := by
  have hemp : C.toList.isEmpty = false := not_empty (by have := hC.n2; omega)
  have hn2 : ((s.size : Int) == 1) = false := beq_eq_false_iff_ne.2 (by omega)
  have h8z : decide ((8 : Int) < (s.size : Int)) = true := decide_eq_true (by omega)
  have HU : ∀ W, Hid (Calls Tryz.prog 133 #[.int .i64 s.size] W fun e w' => e = .returned (.bool true) ∧ W = w') := fun W => (Tryz.strings_shouldUseASCIISet s.size W).mono fun e w' ⟨h1, h2⟩ => ⟨by rw [h1, h8z], h2.symm⟩
  have hM := Tryz.strings_makeASCIISet (zero_of_info infoSet).1 C w (by have := hC.n3; omega) (few_j hC)
  have HM := Lib.hid hM
  have hsc : (storeCells ⟨w.heap.size + 1, 0, none⟩ (Lib.setCells C.data.toList).toList 0).run Tryz.prog ((w.alloc (.cells (Lib.setCells C.data.toList) 200)).alloc (.cells (Array.replicate 256 (.bool false)) 200)) = .ok () ((w.alloc (.cells (Lib.setCells C.data.toList) 200)).alloc (.cells (Lib.setCells C.data.toList) 200)) := by
    have := run_storeCells_new (P := Tryz.prog) (w.alloc (.cells (Lib.setCells C.data.toList) 200)) 200 (Array.replicate 256 (.bool false)) (Lib.setCells C.data.toList) (by rw [Lib.setCells_size]; exact (zero_of_info infoSet).2) (by rw [Lib.setCells_size, Array.size_replicate]) (Lib.setCells_one _)
    simpa using this
  have hBS : ∀ x : UInt8, ((w.alloc (.cells (Lib.setCells C.data.toList) 200)).alloc (.cells (Lib.setCells C.data.toList) 200)).cell? ⟨w.heap.size + 1, x.toNat, none⟩ = some (.bool (C.data.toList.contains x)) := fun x => by
    rw [World.cell?_alloc_at _ _ _ _ (by simp), Lib.setCells_at]
  have HBS := Lib.hid hBS
  have hz := (zero_of_info infoSet).1
  have hsz : (Lib.setCells C.data.toList).size = 256 := Lib.setCells_size C.data.toList
  have HKW : Hid (Keep [] w ((w.alloc (.cells (Lib.setCells C.data.toList) 200)).alloc (.cells (Lib.setCells C.data.toList) 200))) := ((Keep.refl [] w).alloc _).alloc _
  clear hM hBS hC
  generalize Lib.setCells C.data.toList = SC at *
  go_enter Tryz.func109, Tryz.ntmps109
  go_wp2_with (first | (go_at_call 133; refine (HU _).out.mono ?_; rintro e w' ⟨rfl, rfl⟩) | (go_at_call 134; refine HM.out.mono ?_; rintro e w' ⟨rfl, hw⟩; rw [hw]))
  generalize (w.alloc (.cells SC 200)).alloc (.cells SC 200) = W2 at *
  clear hsc HM
  have hz0 : (0 : Int) ≤ s.size := by omega
  go_loop [8] (fun i => ∃ k : Nat, k ≤ s.size ∧ i = .int .i64 ((k : Int) - 1) ∧ ∀ (j : Nat) y, k ≤ j → s.data.toList[j]? = some y → C.data.toList.contains y = false) (fun i => (intOf i + 1).toNat)
  case atStart => exact ⟨s.size, Nat.le_refl _, rfl, fun j y h1 h2 => by
    have := (List.getElem?_eq_some_iff.1 h2).1
    rw [Array.length_toList] at this
    exact absurd this (Nat.not_lt.2 h1)⟩
  case round =>
    obtain ⟨k, hk, rfl, hno⟩ := hrel
    have HNO := Lib.hid hno
    clear hno
    by_cases hk0 : 0 < k
    · obtain ⟨k, rfl⟩ : ∃ k', k = k' + 1 := ⟨k - 1, by omega⟩
      have hks : k < s.size := by omega
      have e1 : (((k + 1 : Nat) : Int) - 1) = (k : Int) := by omega
      rw [e1]
      have hxl := Lib.hid (list_at (s := s) (i := k) hks)
      have hc := HBS.out (s[k]'hks)
      cases hin : C.data.toList.contains (s[k]'hks)
      · have HIN := Lib.hid hin
        have HC := Lib.hid (Tryz.asciiSet_contains _ _ false W2 (by rw [← hin]; exact hc))
        clear hc hin e1
        go_wp2_with (go_at_call 135; refine HC.out.mono ?_; rintro e w' ⟨rfl, rfl⟩)
        go_round
        case rel => exact ⟨k, by omega, by go_num, fun j y hj hy => by
          rcases Nat.lt_or_ge k j with h | h
          · exact HNO.out j y h hy
          · obtain rfl : j = k := by omega
            rw [hxl.out] at hy
            cases hy
            exact HIN.out⟩
        case measure => simp [intOf]
      · have HIN := Lib.hid hin
        have HC := Lib.hid (Tryz.asciiSet_contains _ _ true W2 (by rw [← hin]; exact hc))
        clear hc hin e1
        go_wp2_with (go_at_call 135; refine HC.out.mono ?_; rintro e w' ⟨rfl, rfl⟩)
        go_ret
        have hL : lastC C s.data.toList = k + 1 := lastN_hit (c := C.data.toList.contains) hxl.out HIN.out (fun j y hj hy => HNO.out j y (by omega) hy)
        exact ⟨by rw [hL]; simp, HKW.out⟩
    · obtain rfl : k = 0 := by omega
      go_wp2
      go_ret
      have hL : lastC C s.data.toList = 0 := lastN_none (c := C.data.toList.contains) (fun j y hy => HNO.out j y (Nat.zero_le _) hy)
      exact ⟨by rw [hL]; rfl, HKW.out⟩
theorem lany_any (s C : ByteArray) (hC : Few C) (w : World) {B : Nat} (hE : Env B w) (hs : s.size ≤ 4000000000) :
    Calls Tryz.prog 109 #[.string s, .string C] w fun e w' => e = .returned (.int .i64 ((lastC C s.data.toList : Nat) - 1)) ∧ Keep [] w w' := by
  by_cases h1 : s.size = 1
  · exact lany_one s C hC w h1
  · rcases Nat.lt_or_ge 8 s.size with h8 | h8
    · exact lany_long s C hC w h8 hs
    · exact lany_short s C hC w hE h8 h1
end Go.Proofs.YtmfoiceofhcicaaGreatDoor

namespace Go.Proofs.YtmfoiceofhcicaaGreatDoor
open Go.RowKit

theorem dbl_cons (b : UInt8) (l : List UInt8) : dbl (b :: l) = (if b = 39 then [39, 39] else [b]) ++ dbl l := rfl
theorem replaceK_dbl : ∀ (l : List UInt8) (k : Nat), Lib.count l [39] ≤ k → Lib.replaceK [39] [39, 39] k l = dbl l
  | [], k, _ => by
    cases k with
    | zero => rfl
    | succ k => rw [Lib.replaceK, if_pos (by decide)]; rfl
  | b :: l, k, h => by
    by_cases hb : b = 39
    · subst hb
      rw [Lib.count_cons_eq] at h
      obtain ⟨k, rfl⟩ : ∃ k', k = k' + 1 := ⟨k - 1, by omega⟩
      have h0 : Lib.index (39 :: l) [39] = ((0 : Nat) : Int) := by rw [Lib.index_one]; rfl
      rw [Lib.replaceK_hit _ _ _ _ 0 h0, dbl_cons, if_pos rfl]
      simp only [List.take_zero, List.nil_append, List.length_singleton, Nat.zero_add, List.drop_succ_cons, List.drop_zero]
      rw [replaceK_dbl l k (by omega)]
    · have hc : Lib.count (b :: l) [39] = Lib.count l [39] := Lib.count_cons_ne b 39 l hb
      rw [hc] at h
      have hbe : (b == (39 : UInt8)) = false := by simpa using hb
      rw [dbl_cons, if_neg hb]
      cases k with
      | zero =>
        have := replaceK_dbl l 0 h
        rw [← this]; rfl
      | succ k =>
        have ih := replaceK_dbl l (k + 1) h
        rw [← ih]
        have hge := Lib.index_ge l [39]
        by_cases hm : Lib.index l [39] = -1
        · have h1 : Lib.index (b :: l) [39] = -1 := by
            rw [Lib.index_one, Lib.indexByte, hbe] at *
            rw [if_neg (by simp), hm]
            rfl
          rw [Lib.replaceK, if_pos (by rw [h1]; rfl), Lib.replaceK, if_pos (by rw [hm]; rfl)]
          rfl
        · obtain ⟨i, hi⟩ : ∃ i : Nat, Lib.index l [39] = i := ⟨(Lib.index l [39]).toNat, by omega⟩
          have h1 : Lib.index (b :: l) [39] = ((i + 1 : Nat) : Int) := by
            rw [Lib.index_one] at hi ⊢
            rw [Lib.indexByte, hbe, if_neg (by simp), hi, if_neg (by simp)]
            rfl
          rw [Lib.replaceK_hit _ _ _ _ _ h1, Lib.replaceK_hit _ _ _ _ _ hi]
          rfl
theorem replaceAll_dbl (l : List UInt8) : Lib.replaceAll l [39] [39, 39] = dbl l := by
  unfold Lib.replaceAll Lib.replace
  rw [if_neg (by decide)]
  exact replaceK_dbl l _ (by unfold Lib.replaceNum; rw [if_pos (.inl (by omega))]; exact Nat.le_refl _)
theorem dbl_le (l : List UInt8) : (dbl l).length ≤ 2 * l.length := by
  induction l with
  | nil => exact Nat.le_refl _
  | cons b l ih => rw [dbl_cons]; split <;> simp <;> omega
theorem size_len (s : ByteArray) : s.data.toList.length = s.size := by rw [Array.length_toList]; rfl
def dblB (s : ByteArray) : ByteArray := ⟨(dbl s.data.toList).toArray⟩
theorem dblB_size (s : ByteArray) : (dblB s).size ≤ 2 * s.size := by
  have := dbl_le s.data.toList
  rw [size_len] at this
  show (dbl s.data.toList).toArray.size ≤ _
  simpa using this
set_option maxRecDepth 100000 in
set_option maxHeartbeats 400000 in
/-- dress$1: each quote doubled. -/
theorem double_any {B : Nat} (s : ByteArray) (w : World) (hE : EnvM B w) (hs : s.size ≤ 1000000000) :
    Calls Tryz.prog 106 #[.string s] w fun e w' => e = .returned (.string (dblB s)) ∧ Keep [] w w' := by
  obtain ⟨m, hm⟩ := hE.vars.ml
  have hc : Lib.countB s ⟨#[39]⟩ ≤ s.size + 1 := by
    have := Lib.count_le s.data.toList [39]
    rw [size_len] at this
    exact this
  have hR := Tryz.strings_ReplaceAll s ⟨#[39]⟩ ⟨#[39, 39]⟩ m w (by omega) hm (by decide) (by show _ + _ * 2 ≤ _; omega)
  have HR : Hid (Calls Tryz.prog 107 #[.string s, .string ⟨#[39]⟩, .string ⟨#[39, 39]⟩] w fun e w' => e = .returned (.string (dblB s)) ∧ Keep [] w w') := hR.mono fun e w' ⟨h1, h2⟩ => ⟨by
    rw [h1]
    show Ending.returned (.string ⟨(Lib.replaceAll s.data.toList [39] [39, 39]).toArray⟩) = _
    rw [replaceAll_dbl]; rfl, Keep.of_below h2⟩
  clear hR hm hE hc
  go_enter Tryz.func106, Tryz.ntmps106
  go_wp2_with (go_at_call 107; refine HR.out.mono ?_; rintro e w' ⟨rfl, hk⟩)
  go_ret
  exact ⟨rfl, hk⟩

/-! ### where special bytes stand -/
def specC (h : Bool) : ByteArray := if h then ⟨#[123, 125, 35]⟩ else ⟨#[123, 125]⟩
theorem specC_few (h : Bool) : Few (specC h) := by
  cases h
  · exact ⟨fun b hb => by
      have : b ∈ ([123, 125] : List UInt8) := hb
      simp at this
      rcases this with rfl | rfl <;> decide, by decide, by decide⟩
  · exact ⟨fun b hb => by
      have : b ∈ ([123, 125, 35] : List UInt8) := hb
      simp at this
      rcases this with rfl | rfl | rfl <;> decide, by decide, by decide⟩
theorem specC_is (h : Bool) : (specC h).data.toList.contains = specB h := by
  funext b
  cases h
  · show ([123, 125] : List UInt8).contains b = _
    rw [Bool.eq_iff_iff]; simp [specB]
  · show ([123, 125, 35] : List UInt8).contains b = _
    rw [Bool.eq_iff_iff]; simp [specB, or_assoc]
theorem indexAny_is : ∀ (l C : List UInt8), Lib.indexAny l C = if l.any C.contains then (l.findIdx C.contains : Int) else -1
  | [], _ => rfl
  | b :: l, C => by
    rw [Lib.indexAny, indexAny_is l C, List.any_cons, List.findIdx_cons]
    cases hb : C.contains b
    · cases ha : l.any C.contains
      · simp
      · simp
    · simp

theorem Keep.undr {bs : List Nat} {w w' : World} {k : Nat} (h : Keep bs (w.drewN k) w') : Keep bs w w' := ⟨h.os, h.tape, h.output, h.size, h.block⟩
theorem lastN_le (c : UInt8 → Bool) (l : List UInt8) : lastN c l ≤ l.length := by unfold lastN; omega
theorem first_last {c : UInt8 → Bool} {l : List UInt8} (h : l.any c = true) : l.findIdx c < lastN c l := by
  obtain ⟨x, hx, hc⟩ := List.any_eq_true.1 h
  have hf : l.findIdx c < l.length := List.findIdx_lt_length.2 ⟨x, hx, hc⟩
  have hr : l.reverse.findIdx c < l.reverse.length := List.findIdx_lt_length.2 ⟨x, List.mem_reverse.2 hx, hc⟩
  rcases Nat.lt_or_ge (l.findIdx c) (lastN c l) with h1 | h1
  · exact h1
  · exfalso
    unfold lastN at h1
    have hp := List.findIdx_getElem (w := hr)
    rw [List.getElem_reverse] at hp
    rw [List.length_reverse] at hr
    have := List.not_of_lt_findIdx (p := c) (xs := l) (i := l.length - 1 - l.reverse.findIdx c) (by omega)
    simp [hp] at this
set_option maxRecDepth 100000 in
set_option maxHeartbeats 2000000 in
/-- dress. -/
theorem dress_any {B : Nat} (s : ByteArray) (h : Bool) (w : World) (hE : EnvM B w) (hs : s.size ≤ 1000000000) :
    Calls Tryz.prog 85 #[.string s, .bool h] w fun e w' => e = .returned (.string ⟨(dressL h s.data.toList).toArray⟩) ∧ Keep [] w w' := by
  have HE := Lib.hid hE
  have HI : ∀ W, Hid (Calls Tryz.prog 108 #[.string s, .string (specC h)] W fun e w' => e = .returned (.int .i64 (if s.data.toList.any (specB h) then (s.data.toList.findIdx (specB h) : Int) else -1)) ∧ Keep [] W w') := fun W => (iany_any s (specC h) (specC_few h) W (by omega)).mono fun e w' ⟨h1, h2⟩ => ⟨by rw [h1, indexAny_is, specC_is], h2⟩
  have HL : ∀ W, EnvM B W → Hid (Calls Tryz.prog 109 #[.string s, .string (specC h)] W fun e w' => e = .returned (.int .i64 ((lastN (specB h) s.data.toList : Nat) - 1)) ∧ Keep [] W w') := fun W hW => (lany_any s (specC h) (specC_few h) W hW.env (by omega)).mono fun e w' ⟨h1, h2⟩ => ⟨by rw [h1]; unfold lastC lastN; rw [specC_is], h2⟩
  have HD : ∀ (t : ByteArray) W, EnvM B W → t.size ≤ 1000000000 → Hid (Calls Tryz.prog 106 #[.string t] W fun e w' => e = .returned (.string (dblB t)) ∧ Keep [] W w') := fun t W hW ht => double_any t W hW ht
  have hln := lastN_le (specB h) s.data.toList
  rw [size_len] at hln
  by_cases ha : s.data.toList.any (specB h) = true
  · have hfl := first_last ha
    rw [if_pos ha] at HI
    have HR : Hid (dressL h s.data.toList = dbl (s.data.toList.take (s.data.toList.findIdx (specB h))) ++ [39] ++ dbl ((s.data.toList.take (lastN (specB h) s.data.toList)).drop (s.data.toList.findIdx (specB h))) ++ [39] ++ dbl (s.data.toList.drop (lastN (specB h) s.data.toList))) := by unfold Hid dressL; rw [if_pos ha]
    clear ha hE
    generalize s.data.toList.findIdx (specB h) = a at *
    generalize lastN (specB h) s.data.toList = b at *
    have e1 : ((b : Int) - 1) + 1 = b := by omega
    have d1 := dblB_size (s.extract 0 a)
    have d2 := dblB_size (s.extract a b)
    have d3 := dblB_size (s.extract b s.size)
    rw [ByteArray.size_extract] at d1 d2 d3
    obtain ⟨X, hX⟩ : ∃ X, dblB (s.extract 0 a) = X := ⟨_, rfl⟩
    obtain ⟨Y, hY⟩ : ∃ Y, dblB (s.extract a b) = Y := ⟨_, rfl⟩
    obtain ⟨Z, hZ⟩ : ∃ Z, dblB (s.extract b s.size) = Z := ⟨_, rfl⟩
    have HDX := fun W (hW : EnvM B W) => HD (s.extract 0 a) W hW (by rw [ByteArray.size_extract]; omega)
    have HDY := fun W (hW : EnvM B W) => HD (s.extract a b) W hW (by rw [ByteArray.size_extract]; omega)
    have HDZ := fun W (hW : EnvM B W) => HD (s.extract b s.size) W hW (by rw [ByteArray.size_extract]; omega)
    rw [hX] at HDX d1
    rw [hY] at HDY d2
    rw [hZ] at HDZ d3
    have hq : (⟨#[39]⟩ : ByteArray).size = 1 := rfl
    have HA1 : ∀ W, (Op.stringOp .add X ⟨#[39]⟩).run Tryz.prog W = .ok (.string (X ++ ⟨#[39]⟩)) W := fun W => run_string_add_sum W _ _ (by rw [hq]; omega)
    have hX1 : (X ++ (⟨#[39]⟩ : ByteArray)).size ≤ 4000000000 := by rw [ByteArray.size_append, hq]; omega
    obtain ⟨X1, hX1e⟩ : ∃ X1, X ++ (⟨#[39]⟩ : ByteArray) = X1 := ⟨_, rfl⟩
    rw [hX1e] at HA1 hX1
    have HA2 : ∀ W, (Op.stringOp .add X1 Y).run Tryz.prog W = .ok (.string (X1 ++ Y)) W := fun W => run_string_add_sum W _ _ (by omega)
    have hX2 : (X1 ++ Y).size ≤ 8000000000 := by rw [ByteArray.size_append]; omega
    obtain ⟨X2, hX2e⟩ : ∃ X2, X1 ++ Y = X2 := ⟨_, rfl⟩
    rw [hX2e] at HA2 hX2
    have HA3 : ∀ W, (Op.stringOp .add X2 ⟨#[39]⟩).run Tryz.prog W = .ok (.string (X2 ++ ⟨#[39]⟩)) W := fun W => run_string_add_sum W _ _ (by rw [hq]; omega)
    have hX3 : (X2 ++ (⟨#[39]⟩ : ByteArray)).size ≤ 9000000000 := by rw [ByteArray.size_append, hq]; omega
    obtain ⟨X3, hX3e⟩ : ∃ X3, X2 ++ (⟨#[39]⟩ : ByteArray) = X3 := ⟨_, rfl⟩
    rw [hX3e] at HA3 hX3
    have HA4 : ∀ W, (Op.stringOp .add X3 Z).run Tryz.prog W = .ok (.string (X3 ++ Z)) W := fun W => run_string_add_sum W _ _ (by omega)
    have HR2 : Hid (X3 ++ Z = ⟨(dressL h s.data.toList).toArray⟩) := by
      unfold Hid
      rw [HR.out, ← hX3e, ← hX2e, ← hX1e, ← hX, ← hY, ← hZ]
      apply ByteArray.ext
      apply Array.toList_inj.1
      have g1 : (s.extract 0 a).data.toList = s.data.toList.take a := by simp [ByteArray.data_extract]
      have g2 : (s.extract a b).data.toList = (s.data.toList.take b).drop a := by simp [ByteArray.data_extract, List.extract_eq_drop_take']
      have g3 : (s.extract b s.size).data.toList = s.data.toList.drop b := by
        simp only [ByteArray.data_extract, Array.toList_extract, List.extract_eq_drop_take']
        rw [List.take_of_length_le (by rw [size_len]; omega)]
      simp only [ByteArray.data_append, Array.toList_append, dblB, g1, g2, g3]
    clear HR hX3e hX2e hX1e hX hY hZ HD d1 d2 d3 hq hX1 hX2 hX3
    have hab : (a : Int) ≤ b := by omega
    have hbs : (b : Int) ≤ s.size := by omega
    have has : (a : Int) ≤ s.size := by omega
    cases h
    all_goals
      go_enter Tryz.func85, Tryz.ntmps85
      go_wp2_with fail
      refine (HI _).out.mono ?_
      rintro e w1 ⟨rfl, hk1⟩
      have HE1 := Lib.hid (HE.out.keep hk1 (by simp))
      go_wp2_with fail
      refine (HL _ HE1.out).out.mono ?_
      rintro e w2 ⟨rfl, hk2⟩
      have HE2 := Lib.hid (HE1.out.keep hk2 (by simp))
      have HK2 := Lib.hid (hk1.nil hk2)
      clear hk1 hk2 HE1 HI HL
      go_wp2_with fail
      go_region_with (first | (go_at_call_of 106 (Value.string (s.extract 0 a)); refine (HDX _ (by exact HE2.out.drewN 1)).out.mono ?_; rintro e w3 ⟨rfl, hk3⟩; have HE3 := Lib.hid ((HE2.out.drewN 1).keep hk3 (by simp)); have HK3 := Lib.hid (HK2.out.nil (Keep.undr (k := 1) hk3)); clear hk3) | (go_at_call_of 106 (Value.string (s.extract a b)); refine (HDY _ HE3.out).out.mono ?_; rintro e w4 ⟨rfl, hk4⟩; have HE4 := Lib.hid (HE3.out.keep hk4 (by simp)); have HK4 := Lib.hid (HK3.out.nil hk4); clear hk4) | (go_at_call_of 106 (Value.string (s.extract b s.size)); refine (HDZ _ HE4.out).out.mono ?_; rintro e w5 ⟨rfl, hk5⟩; have HK5 := Lib.hid (HK4.out.nil hk5); clear hk5))
      go_wp2
      go_ret
      exact ⟨by rw [← HR2.out]; rfl, HK5.out⟩
  · rw [if_neg ha] at HI
    have HR : Hid (⟨(dressL h s.data.toList).toArray⟩ = dblB s) := by unfold Hid dressL; rw [if_neg ha]; rfl
    clear ha hE
    generalize lastN (specB h) s.data.toList = b at *
    have HD1 := fun W (hW : EnvM B W) => HD s W hW hs
    clear HD
    cases h
    all_goals
      go_enter Tryz.func85, Tryz.ntmps85
      go_wp2_with fail
      refine (HI _).out.mono ?_
      rintro e w1 ⟨rfl, hk1⟩
      have HE1 := Lib.hid (HE.out.keep hk1 (by simp))
      go_wp2_with fail
      refine (HL _ HE1.out).out.mono ?_
      rintro e w2 ⟨rfl, hk2⟩
      have HE2 := Lib.hid (HE1.out.keep hk2 (by simp))
      have HK2 := Lib.hid (hk1.nil hk2)
      clear hk1 hk2 HE1 HI HL
      go_wp2_with (go_at_call 106; refine (HD1 _ HE2.out).out.mono ?_; rintro e w3 ⟨rfl, hk3⟩)
      go_ret
      exact ⟨by rw [HR.out]; rfl, HK2.out.nil hk3⟩
end Go.Proofs.YtmfoiceofhcicaaGreatDoor

namespace Go.Proofs.YtmfoiceofhcicaaGreatDoor
open Go.RowKit

end Go.Proofs.YtmfoiceofhcicaaGreatDoor

namespace Go.Proofs.YtmfoiceofhcicaaGreatDoor
open Go.RowKit

theorem iterPos1 (w0 : World) (n : Nat) (hn : w0.heap.size = n) (s : ByteArray) (p : Nat) : (w0.alloc (.stringIter s p)).iterPos n = p := by
  subst hn; exact World.iterPos_iter w0 s p
theorem next_any1 {P : Program} (w0 : World) (n : Nat) (hn : w0.heap.size = n) (s : ByteArray) (pos : Nat) (ty : TypeId) (h : pos < s.size) :
    (Instr.next (.pointer (some ⟨n, 0, none⟩)) true ty).run P (w0.alloc (.stringIter s pos)) =
      .ok (.tuple #[.bool true, .int .i64 pos, .int .i32 (Utf8.decode s pos).1]) (w0.alloc (.stringIter s (pos + (Utf8.decode s pos).2))) := by
  subst hn; exact run_next_any w0 s pos ty h
theorem next_end1 {P : Program} (w0 : World) (n : Nat) (hn : w0.heap.size = n) (s : ByteArray) (pos : Nat) (ty : TypeId) (h : ¬ pos < s.size) :
    (Instr.next (.pointer (some ⟨n, 0, none⟩)) true ty).run P (w0.alloc (.stringIter s pos)) = .ok (.tuple #[.bool false]) (w0.alloc (.stringIter s pos)) := by
  subst hn; exact run_next_end w0 s pos ty h

/-- What utf.Check tells. -/
def spotErr (s : ByteArray) : Int := if brk s < 0 then 0 else 6
def spotAt (s : ByteArray) : Int := if brk s < 0 then 0 else brk s

/-- Check's state ahead of a piece: the last piece's place, and whether it was U+FFFD. -/
def CheckInv (s : ByteArray) (pos last : Nat) (flag : Bool) : Prop :=
  pos ≤ s.size ∧ (flag = false → brkAt s pos = brk s) ∧
  (flag = true → last < s.size ∧ (Utf8.decode s last).1 = 65533 ∧ pos = last + (Utf8.decode s last).2 ∧ brkAt s last = brk s)
theorem spot_bad {s : ByteArray} {last : Nat} (h : CheckInv s (last + 1) last true) : spotErr s = 6 ∧ spotAt s = last := by
  obtain ⟨_, _, h⟩ := h
  obtain ⟨h1, h2, h3, h4⟩ := h rfl
  have hn : (formD s last).1 < 0 := (formD_neg s last).2 ⟨h2, by omega⟩
  rw [brkAt_bad s last h1 hn] at h4
  unfold spotErr spotAt
  rw [← h4, if_neg (by omega), if_neg (by omega)]
  exact ⟨rfl, rfl⟩
theorem check_good {s : ByteArray} {pos last : Nat} {flag : Bool} (h : CheckInv s pos last flag) (hb : flag = true → pos ≠ last + 1) : brkAt s pos = brk s := by
  cases flag with
  | false => exact h.2.1 rfl
  | true =>
    obtain ⟨h1, h2, h3, h4⟩ := h.2.2 rfl
    have hn : ¬ (formD s last).1 < 0 := fun hc => hb rfl (by rw [h3, ((formD_neg s last).1 hc).2])
    rw [brkAt_next s last h1 hn, formD_same s last hn] at h4
    rw [h3]
    exact h4
theorem check_next {s : ByteArray} {pos last : Nat} {flag : Bool} (h : CheckInv s pos last flag) (hb : flag = true → pos ≠ last + 1) (hp : pos < s.size) :
    CheckInv s (pos + (Utf8.decode s pos).2) pos (((Utf8.decode s pos).1 : Int) == 65533) := by
  have hg := check_good h hb
  have hw := formD_wide s pos hp
  refine ⟨?_, fun hf => ?_, fun ht => ⟨hp, by have := of_decide_eq_true ht; omega, rfl, hg⟩⟩
  · by_cases hn : (formD s pos).1 < 0
    · have := ((formD_neg s pos).1 hn).2; omega
    · rw [formD_same s pos hn] at hw; exact hw.2
  · have hn : ¬ (formD s pos).1 < 0 := fun hc => by
      have := ((formD_neg s pos).1 hc).1
      simp [this] at hf
    rw [← hg, brkAt_next s pos hp hn, formD_same s pos hn]
theorem spot_fine {s : ByteArray} {pos last : Nat} {flag : Bool} (h : CheckInv s pos last flag) (hb : flag = true → pos ≠ last + 1) (hp : s.size ≤ pos) : spotErr s = 0 ∧ spotAt s = 0 := by
  have hg := check_good h hb
  rw [brkAt_end s pos hp] at hg
  unfold spotErr spotAt
  rw [← hg]
  exact ⟨rfl, rfl⟩
theorem check_end {s : ByteArray} {pos last : Nat} (h : CheckInv s pos last true) (hb : s.size = last + 1) (hp : ¬ pos < s.size) : CheckInv s (last + 1) last true := by
  have h3 := (h.2.2 rfl).2.2.1
  have h1 := h.1
  have : pos = last + 1 := by have := (h.2.2 rfl).1; omega
  rw [this] at h
  exact h
theorem decode_wide (s : ByteArray) (pos : Nat) : 1 ≤ (Utf8.decode s pos).2 := Lib.width_pos s pos

set_option maxRecDepth 100000 in
set_option maxHeartbeats 1000000 in
/-- utf.Check. -/
theorem check_any (s : ByteArray) (w : World) (hs : s.size ≤ 9223372036854775000) :
    Calls Tryz.prog 97 #[.string s] w fun e w' => e = .returned (.agg #[.int .i64 (spotErr s), .int .i64 (spotAt s)]) ∧ Below w.heap.size w w' := by
  have hB : ∀ pos c, Below w.heap.size w ((w.alloc (Obj.cells c 167)).alloc (.stringIter s pos)) := fun pos c => ((Below.refl _ w).alloc (Nat.le_refl _) _).alloc (by simp) _
  have HB := Lib.hid hB
  clear hB
  go_enter Tryz.func97, Tryz.ntmps97
  go_wp2
  go_loopw [3, 4] (fun l f wr => ∃ (pos last : Nat) (flag : Bool), l = .int .i64 last ∧ f = .bool flag ∧ CheckInv s pos last flag ∧ wr = (w.alloc (Obj.cells #[Value.int IntKind.i64 0, Value.int IntKind.i64 0] 167)).alloc (.stringIter s pos))
    (fun _ _ wr => s.size - wr.iterPos (w.heap.size + 1))
  case atStart => exact ⟨0, 0, false, rfl, rfl, ⟨Nat.zero_le _, fun _ => rfl, fun h => by cases h⟩, rfl⟩
  case round =>
    obtain ⟨pos, last, flag, rfl, rfl, hI, rfl⟩ := hrel
    have HI := Lib.hid hI
    have hps := hI.1
    have hdw := decode_wide s pos
    by_cases hp : pos < s.size
    · have hnx := fun ty => next_any1 (P := Tryz.prog) (w.alloc (Obj.cells #[Value.int IntKind.i64 0, Value.int IntKind.i64 0] 167)) (w.heap.size + 1) (by simp) s pos ty hp
      cases flag with
      | false =>
        clear hI
        go_wp2
        go_roundw
        case rel => exact ⟨_, pos, _, rfl, rfl, check_next HI.out (fun h => by cases h) hp, rfl⟩
        case measure => rw [iterPos1 _ _ (by simp), iterPos1 _ _ (by simp)]; omega
      | true =>
        have hlp : last < pos := by have := hI.2.2 rfl; have := decode_wide s last; omega
        clear hI
        by_cases hb : pos = last + 1
        · subst hb
          have e1 : (((last + 1 : Nat) : Int) - last == 1) = true := by rw [beq_iff_eq]; omega
          go_wp2
          exact bodyPost_ret (v := .agg #[.int .i64 6, .int .i64 last]) (by simp [results, Tryz.results97, go_sem]) rfl ⟨by rw [(spot_bad HI.out).1, (spot_bad HI.out).2], HB.out _ _⟩
        · have e1 : ((pos : Int) - last == 1) = false := by rw [beq_eq_false_iff_ne]; omega
          go_wp2
          go_roundw
          case rel => exact ⟨_, pos, _, rfl, rfl, check_next HI.out (fun _ => hb) hp, rfl⟩
          case measure => rw [iterPos1 _ _ (by simp), iterPos1 _ _ (by simp)]; omega
    · have hnx := fun ty => next_end1 (P := Tryz.prog) (w.alloc (Obj.cells #[Value.int IntKind.i64 0, Value.int IntKind.i64 0] 167)) (w.heap.size + 1) (by simp) s pos ty hp
      cases flag with
      | false =>
        clear hI
        go_wp2
        exact bodyPost_ret (v := .agg #[.int .i64 0, .int .i64 0]) (by simp [results, Tryz.results97, go_sem]) rfl ⟨by rw [(spot_fine HI.out (fun h => by cases h) (by omega)).1, (spot_fine HI.out (fun h => by cases h) (by omega)).2], HB.out _ _⟩
      | true =>
        have hlp : last < pos := by have := hI.2.2 rfl; have := decode_wide s last; omega
        have hls : last < s.size := (hI.2.2 rfl).1
        clear hI
        by_cases hb : s.size = last + 1
        · have e1 : ((s.size : Int) - last == 1) = true := by rw [beq_iff_eq]; omega
          have Hb := Lib.hid hb
          clear hb
          go_wp2
          exact bodyPost_ret (v := .agg #[.int .i64 6, .int .i64 last]) (by simp [results, Tryz.results97, go_sem]) rfl ⟨by rw [(spot_bad (check_end HI.out Hb.out hp)).1, (spot_bad (check_end HI.out Hb.out hp)).2], HB.out _ _⟩
        · have e1 : ((s.size : Int) - last == 1) = false := by rw [beq_eq_false_iff_ne]; omega
          go_wp2
          exact bodyPost_ret (v := .agg #[.int .i64 0, .int .i64 0]) (by simp [results, Tryz.results97, go_sem]) rfl ⟨by rw [(spot_fine HI.out (fun _ h => hb (by omega)) (by omega)).1, (spot_fine HI.out (fun _ h => hb (by omega)) (by omega)).2], HB.out _ _⟩
end Go.Proofs.YtmfoiceofhcicaaGreatDoor

namespace Go.Proofs.YtmfoiceofhcicaaGreatDoor
open Go.RowKit

set_option maxRecDepth 100000 in
set_option maxHeartbeats 400000 in
/-- isName. -/
theorem isName_any (s : ByteArray) (w : World) (hs : s.size ≤ 9223372036854775000) :
    Calls Tryz.prog 101 #[.string s] w fun e w' => e = .returned (.bool (isNameB s)) ∧ w = w' := by
  have hN := isname_any s hs w
  obtain ⟨b, hb⟩ : ∃ b, (allB nameI s && startI (byt s 0)) = b := ⟨_, rfl⟩
  rw [hb] at hN
  have HK : Hid (isNameB s = (b && decide (s.size ≤ 64))) := by unfold Hid isNameB; rw [hb]
  have HN := Lib.hid hN
  clear hN hb
  cases b
  · go_enter Tryz.func101, Tryz.ntmps101
    go_wp2_with (go_at_call 127; refine HN.out.mono ?_; rintro e w' ⟨rfl, rfl⟩)
    go_ret
    exact ⟨by rw [HK.out]; rfl, rfl⟩
  · have e1 : decide ((s.size : Int) ≤ 64) = decide (s.size ≤ 64) := by simp; omega
    have HE1 := Lib.hid e1
    clear e1
    go_enter Tryz.func101, Tryz.ntmps101
    go_wp2_with (go_at_call 127; refine HN.out.mono ?_; rintro e w' ⟨rfl, rfl⟩)
    go_ret
    exact ⟨by rw [HK.out, ← HE1.out]; simp, rfl⟩

theorem cut_is (s : ByteArray) (h : Lib.hasPrefix s.data.toList [61] = true) : (⟨(Lib.trimPrefix s.data.toList [61]).toArray⟩ : ByteArray) = s.extract 1 s.size := by
  apply ByteArray.ext
  apply Array.toList_inj.1
  unfold Lib.trimPrefix
  rw [if_pos h]
  simp only [ByteArray.data_extract, Array.toList_extract, List.extract_eq_drop_take', List.length_singleton]
  rw [List.take_of_length_le (by rw [size_len]; omega)]
/-- strings.Fields of the words for kinds of plural, and whether a word is among them. -/
theorem cats_any (W : World) (n : Nat) (hn : W.heap.size = n) (t : ByteArray) : Calls Tryz.prog 98 #[.slice (some ⟨n, 0, none⟩) 6 6, .string t] (W.alloc (.cells #[.string ⟨#[122, 101, 114, 111]⟩, .string ⟨#[111, 110, 101]⟩, .string ⟨#[116, 119, 111]⟩, .string ⟨#[102, 101, 119]⟩, .string ⟨#[109, 97, 110, 121]⟩, .string ⟨#[111, 116, 104, 101, 114]⟩] 9)) fun e w' => e = .returned (.bool (memW catsW t)) ∧ w' = W.alloc (.cells #[.string ⟨#[122, 101, 114, 111]⟩, .string ⟨#[111, 110, 101]⟩, .string ⟨#[116, 119, 111]⟩, .string ⟨#[102, 101, 119]⟩, .string ⟨#[109, 97, 110, 121]⟩, .string ⟨#[111, 116, 104, 101, 114]⟩] 9) :=
  words_contain W n hn catsW t (by decide)
theorem catf_any {B : Nat} (W : World) (hE : EnvM B W) : Calls Tryz.prog 99 #[.string ⟨#[122, 101, 114, 111, 32, 111, 110, 101, 32, 116, 119, 111, 32, 102, 101, 119, 32, 109, 97, 110, 121, 32, 111, 116, 104, 101, 114]⟩] W fun e w' => e = .returned (.slice (some ⟨W.heap.size, 0, none⟩) 6 6) ∧ w' = W.alloc (.cells #[.string ⟨#[122, 101, 114, 111]⟩, .string ⟨#[111, 110, 101]⟩, .string ⟨#[116, 119, 111]⟩, .string ⟨#[102, 101, 119]⟩, .string ⟨#[109, 97, 110, 121]⟩, .string ⟨#[111, 116, 104, 101, 114]⟩] 9) :=
  fields_words (B := B) _ catsW W hE (by decide) (by decide) (by decide)
set_option maxRecDepth 100000 in
set_option maxHeartbeats 1000000 in
/-- isKey. -/
theorem isKey_any {B : Nat} (s : ByteArray) (k : Int) (w : World) (hE : EnvM B w) (hs : s.size ≤ 1000000000) :
    Calls Tryz.prog 83 #[.string s, .int .i64 k] w fun e w' => e = .returned (.bool (isKeyB k s)) ∧ Keep [] w w' := by
  have HE := Lib.hid hE
  by_cases hk : k = 4
  · subst hk
    have HN := Lib.hid (isName_any s w (by omega))
    clear hE
    go_enter Tryz.func83, Tryz.ntmps83
    go_wp2_with (go_at_call 101; refine HN.out.mono ?_; rintro e w' ⟨rfl, rfl⟩)
    go_ret
    exact ⟨rfl, Keep.refl _ _⟩
  · have hk4 : (k == 4) = false := by simpa using hk
    have hP := Tryz.strings_CutPrefix s ⟨#[61]⟩ w
    change Calls Tryz.prog 103 #[.string s, .string ⟨#[61]⟩] w fun e w' => e = .returned (.tuple #[.string ⟨(Lib.trimPrefix s.data.toList [61]).toArray⟩, .bool (Lib.hasPrefix s.data.toList [61])]) ∧ w' = w at hP
    cases hh : Lib.hasPrefix s.data.toList [61]
    · rw [hh] at hP
      have HP := Lib.hid hP
      have HK : Hid (isKeyB k s = memW catsW s) := by unfold Hid isKeyB; rw [if_neg hk, if_neg (by simp [hh])]
      clear hE hP hh hk
      go_enter Tryz.func83, Tryz.ntmps83
      go_wp2_with (first | (go_at_call 103; refine HP.out.mono ?_; rintro e w' ⟨rfl, rfl⟩) | (go_at_call 99; refine (catf_any (B := B) _ HE.out).mono ?_; rintro x w3 ⟨rfl, rfl⟩) | (go_at_call 98; refine (cats_any _ _ rfl s).mono ?_; rintro x w4 ⟨rfl, rfl⟩))
      go_ret
      exact ⟨by rw [HK.out]; rfl, (Keep.refl _ _).alloc _⟩
    · rw [hh, cut_is s hh] at hP
      have HP := Lib.hid hP
      have HN := Lib.hid (number_any w (s.extract 1 s.size) hE (by rw [ByteArray.size_extract]; omega))
      have HK : Hid (isKeyB k s = (numV (s.extract 1 s.size)).isSome) := by unfold Hid isKeyB; rw [if_neg hk, if_pos hh]
      clear hE hP hh hk
      go_enter Tryz.func83, Tryz.ntmps83
      go_wp2_with (first | (go_at_call 103; refine HP.out.mono ?_; rintro e w' ⟨rfl, rfl⟩) | (go_at_call 104; refine HN.out.mono ?_; rintro e w' ⟨v, rfl, _, hb⟩))
      go_ret
      exact ⟨by rw [HK.out]; rfl, Keep.of_below hb⟩

/-! ### isStyle -/
theorem field_spot (W : World) (a b : Value) : (Instr.field 167 (.agg #[a, b]) 0).run Tryz.prog W = .ok a W := by
  simp [Instr.field, go_sem, asAgg]
def quoC : ByteArray := ⟨#[123, 125, 39]⟩
theorem quoC_few : Few quoC := ⟨fun b hb => by
    have : b ∈ ([123, 125, 39] : List UInt8) := hb
    simp at this
    rcases this with rfl | rfl | rfl <;> decide, by decide, by decide⟩
theorem quoC_is : quoC.data.toList.contains = quoB := by
  funext b
  show ([123, 125, 39] : List UInt8).contains b = _
  rw [Bool.eq_iff_iff]; simp [quoB, or_assoc]
theorem any_idx (l C : List UInt8) : decide (0 ≤ Lib.indexAny l C) = l.any C.contains := by
  rw [indexAny_is]
  cases l.any C.contains <;> simp
set_option maxRecDepth 100000 in
set_option maxHeartbeats 1000000 in
/-- isStyle. -/
theorem isStyle_any (s : ByteArray) (w : World) (hs : s.size ≤ 1000000000) :
    Calls Tryz.prog 100 #[.string s] w fun e w' => e = .returned (.bool (isStyleB s)) ∧ Keep [] w w' := by
  have HT : ∀ W, Hid (Calls Tryz.prog 125 #[.string s] W fun e w' => e = .returned (.string (trimB s)) ∧ Keep [] W w') := fun W => (utrim_any s W (by omega)).mono fun e w' ⟨h1, h2⟩ => ⟨h1, Keep.of_below h2⟩
  have HC : ∀ W, Hid (Calls Tryz.prog 97 #[.string s] W fun e w' => e = .returned (.agg #[.int .i64 (spotErr s), .int .i64 (spotAt s)]) ∧ Keep [] W w') := fun W => (check_any s W (by omega)).mono fun e w' ⟨h1, h2⟩ => ⟨h1, Keep.of_below h2⟩
  have HA : ∀ W, Hid (Calls Tryz.prog 126 #[.string s, .string ⟨#[123, 125, 39]⟩] W fun e w' => e = .returned (.bool (s.data.toList.any quoB)) ∧ Keep [] W w') := fun W => (cany_any s quoC quoC_few W (by omega)).mono fun e w' ⟨h1, h2⟩ => ⟨by rw [h1, any_idx, quoC_is], h2⟩
  have b1 : s.toList.isEmpty = noB s := by
    unfold noB
    by_cases h : s.size = 0
    · rw [empty_iff.2 h, decide_eq_true h]
    · rw [not_empty h, decide_eq_false h]
  have b2 : ((trimB s).toList == s.toList) = decide (trimB s = s) := bytes_beq _ _
  have b3 : (spotErr s == 0) = decide (brk s < 0) := by unfold spotErr; split <;> simp [*]
  have b4 : decide ((s.size : Int) ≤ 64) = decide (s.size ≤ 64) := by simp; omega
  have HKK : Hid (isStyleB s = (!noB s && decide (s.size ≤ 64) && decide (trimB s = s) && decide (brk s < 0) && !(s.data.toList.any quoB))) := rfl
  generalize decide (trimB s = s) = q2 at *
  generalize decide (brk s < 0) = q3 at *
  generalize noB s = q1 at *
  generalize s.data.toList.any quoB = q5 at *
  obtain ⟨q4, h4⟩ : ∃ q4, decide (s.size ≤ 64) = q4 := ⟨_, rfl⟩
  rw [h4] at b4 HKK
  clear h4
  have b4' : ((s.size : Int) ≤ 64) ↔ q4 = true := by rw [← b4]; simp
  have hfs := fun W => field_spot W (.int .i64 (spotErr s)) (.int .i64 (spotAt s))
  cases q1
  case true =>
    have HK : Hid (isStyleB s = false) := by unfold Hid; rw [HKK.out]; rfl
    go_enter Tryz.func100, Tryz.ntmps100
    go_wp2_with fail
    go_ret
    exact ⟨by rw [HK.out]; rfl, Keep.refl _ _⟩
  case false =>
    cases q4
    case false =>
      have HK : Hid (isStyleB s = false) := by unfold Hid; rw [HKK.out]; rfl
      go_enter Tryz.func100, Tryz.ntmps100
      go_wp2_with fail
      go_ret
      exact ⟨by rw [HK.out]; rfl, Keep.refl _ _⟩
    case true =>
      cases q2
      case false =>
        have HK : Hid (isStyleB s = false) := by unfold Hid; rw [HKK.out]; rfl
        go_enter Tryz.func100, Tryz.ntmps100
        go_wp2_with (go_at_call 125; refine (HT _).out.mono ?_; rintro e w2 ⟨rfl, hk2⟩)
        go_ret
        exact ⟨by rw [HK.out]; rfl, hk2⟩
      case true =>
        cases q3
        case false =>
          have HK : Hid (isStyleB s = false) := by unfold Hid; rw [HKK.out]; rfl
          go_enter Tryz.func100, Tryz.ntmps100
          go_wp2_with (first | (go_at_call 125; refine (HT _).out.mono ?_; rintro e w2 ⟨rfl, hk2⟩) | (go_at_call 97; refine (HC _).out.mono ?_; rintro e w3 ⟨rfl, hk3⟩))
          go_ret
          exact ⟨by rw [HK.out]; rfl, hk2.nil hk3⟩
        case true =>
          have HK : Hid (isStyleB s = !q5) := by unfold Hid; rw [HKK.out]; rfl
          go_enter Tryz.func100, Tryz.ntmps100
          go_wp2_with (first | (go_at_call 125; refine (HT _).out.mono ?_; rintro e w2 ⟨rfl, hk2⟩) | (go_at_call 97; refine (HC _).out.mono ?_; rintro e w3 ⟨rfl, hk3⟩) | (go_at_call 126; refine (HA _).out.mono ?_; rintro e w4 ⟨rfl, hk4⟩))
          go_ret
          exact ⟨by rw [HK.out]; rfl, (hk2.nil hk3).nil hk4⟩
end Go.Proofs.YtmfoiceofhcicaaGreatDoor

namespace Go.Proofs.YtmfoiceofhcicaaGreatDoor
open Go.RowKit

theorem emp' (s : ByteArray) : s.toList.isEmpty = noB s := by
  unfold noB
  by_cases h : s.size = 0
  · rw [empty_iff.2 h, decide_eq_true h]
  · rw [not_empty h, decide_eq_false h]
theorem typef_any {B : Nat} (W : World) (hE : EnvM B W) : Calls Tryz.prog 99 #[.string ⟨#[110, 117, 109, 98, 101, 114, 32, 100, 97, 116, 101, 32, 116, 105, 109, 101, 32, 108, 105, 115, 116, 32, 117, 110, 105, 116, 32, 114, 101, 108, 97, 116, 105, 118, 101, 32, 112, 108, 97, 110, 101]⟩] W fun e w' => e = .returned (.slice (some ⟨W.heap.size, 0, none⟩) 7 7) ∧ w' = W.alloc (.cells (typesW.map Value.string).toArray 9) :=
  fields_words (B := B) _ typesW W hE (by decide) (by decide) (by decide)
theorem types_any (W : World) (n : Nat) (hn : W.heap.size = n) (t : ByteArray) : Calls Tryz.prog 98 #[.slice (some ⟨n, 0, none⟩) 7 7, .string t] (W.alloc (.cells (typesW.map Value.string).toArray 9)) fun e w' => e = .returned (.bool (memW typesW t)) ∧ w' = W.alloc (.cells (typesW.map Value.string).toArray 9) :=
  words_contain W n hn typesW t (by decide)
/-- The two boxes of plain, in the memory behind its calls. -/
theorem boxes {w W : World} {n : Nat} {c d : Array Value} (hn : w.heap.size = n) (hk : Keep [] ((w.alloc (.cells c 68)).alloc (.cells d 68)) W) : Blk W n 68 c ∧ Blk W (n + 1) 68 d :=
  ⟨((Blk.new' w 68 c n hn).alloc _).keep hk (by simp), (Blk.new' (w.alloc (.cells c 68)) 68 d (n + 1) (by simp [hn])).keep hk (by simp)⟩
set_option maxRecDepth 100000 in
set_option maxHeartbeats 4000000 in
/-- plain, at an argument without a type. -/
theorem plain_3 (p : PT) (h : Bool) (A : Option Addr) (c : Nat) (w : World) (hk : p.k = 3) (h3 : p.ty.size = 0) (hs : p.nm.size ≤ 1000000000) :
    Calls Tryz.prog 80 #[.agg #[.int .i64 p.k, .string p.tx, .string p.nm, .string p.ty, .string p.st, .int .i64 p.off, .slice A p.cs.length c], .bool h] w fun e w' => e = .returned (.bool (plainB p h)) ∧ Keep [] w w' := by
  have hcs : ((p.cs.length : Int) == 0) = decide (p.cs.length = 0) := by rw [Bool.eq_iff_iff]; simp
  have ho : (p.off == 0) = decide (p.off = 0) := by rw [Bool.eq_iff_iff]; simp
  have h3e : p.ty.toList.isEmpty = true := empty_iff.2 h3
  have HKK : Hid (plainB p h = (p.st.toList.isEmpty && isNameB p.nm && ((p.cs.length : Int) == 0) && p.tx.toList.isEmpty && (p.off == 0))) := by
    unfold Hid plainB
    rw [if_neg (by omega), if_neg (by omega), if_pos hk, ← emp', ← emp', ← emp', hcs, ho, h3e]
    simp
  have HN : ∀ W, Hid (Calls Tryz.prog 101 #[.string p.nm] W fun e w' => e = .returned (.bool (isNameB p.nm)) ∧ W = w') := fun W => isName_any p.nm W (by omega)
  have h3n : p.ty.toList = [] := List.isEmpty_iff.1 h3e
  rw [hk]
  clear hcs ho hk h3 h3e
  generalize isNameB p.nm = qn at *
  cases h4 : p.st.toList.isEmpty
  · rw [h4] at HKK
    have h4n : ¬ p.st.toList = [] := by intro h; rw [h] at h4; cases h4
    go_enter Tryz.func80, Tryz.ntmps80
    go_wp2
    go_quiet (fail)
    go_wp2
    go_ret
    exact ⟨by rw [HKK.out]; simp, (((Keep.refl [] w).alloc _).alloc _).drewN _⟩
  · rw [h4] at HKK
    have h4n : p.st.toList = [] := List.isEmpty_iff.1 h4
    cases qn
    all_goals
      go_enter Tryz.func80, Tryz.ntmps80
      go_wp2
      go_quiet (fail)
      go_wp2_with (go_at_call 101; refine (HN _).out.mono ?_; rintro e w3 ⟨rfl, rfl⟩)
      all_goals
        go_ret
        refine ⟨by rw [HKK.out]; simp [*], ?_⟩
        repeat (first | exact Keep.refl _ _ | refine Keep.drewN ?_ _ | refine Keep.setCell ?_ (.inr (by simp)) _ | refine Keep.alloc ?_ _)
end Go.Proofs.YtmfoiceofhcicaaGreatDoor

namespace Go.Proofs.YtmfoiceofhcicaaGreatDoor
open Go.RowKit

theorem emp (s : ByteArray) : s.toList.isEmpty = noB s := by
  unfold noB
  by_cases h : s.size = 0
  · rw [empty_iff.2 h, decide_eq_true h]
  · rw [not_empty h, decide_eq_false h]
theorem spot_zero (s : ByteArray) : (spotErr s == 0) = decide (brk s < 0) := by unfold spotErr; split <;> simp [*]
/-- The memory of plain: the part, and what is left of it. -/
abbrev PlC (p : PT) (cv : Value) : Array Value := #[.int .i64 p.k, .string p.tx, .string p.nm, .string p.ty, .string p.st, .int .i64 p.off, cv]
set_option maxRecDepth 100000 in
set_option maxHeartbeats 4000000 in
theorem plain_1 (p : PT) (h : Bool) (A : Option Addr) (c : Nat) (w : World) (hk : p.k = 1) (hs : p.tx.size ≤ 1000000000) :
    Calls Tryz.prog 80 #[.agg #[.int .i64 p.k, .string p.tx, .string p.nm, .string p.ty, .string p.st, .int .i64 p.off, .slice A p.cs.length c], .bool h] w fun e w' => e = .returned (.bool (plainB p h)) ∧ Keep [] w w' := by
  have HKK : Hid (plainB p h = (!p.tx.toList.isEmpty && (spotErr p.tx == 0) && decide (p.cs.length = 0) && p.nm.toList.isEmpty && p.ty.toList.isEmpty && p.st.toList.isEmpty && decide (p.off = 0))) := by
    unfold Hid plainB
    rw [if_pos hk, emp, emp, emp, emp, spot_zero]
  have HC : ∀ W, Hid (Calls Tryz.prog 97 #[.string p.tx] W fun e w' => e = .returned (.agg #[.int .i64 (spotErr p.tx), .int .i64 (spotAt p.tx)]) ∧ Below W.heap.size W w') := fun W => check_any p.tx W (by omega)
  have hfs := fun W => field_spot W (.int .i64 (spotErr p.tx)) (.int .i64 (spotAt p.tx))
  have hcs : ((p.cs.length : Int) == 0) = decide (p.cs.length = 0) := by rw [Bool.eq_iff_iff]; simp
  have ho : (p.off == 0) = decide (p.off = 0) := by rw [Bool.eq_iff_iff]; simp
  rw [hk]
  rw [← hcs, ← ho] at HKK
  clear hcs ho
  cases h1 : p.tx.toList.isEmpty
  · rw [h1] at HKK
    cases h2 : (spotErr p.tx == 0)
    · rw [h2] at HKK
      have h2' : (spotErr p.tx != 0) = true := by simpa using h2
      go_enter Tryz.func80, Tryz.ntmps80
      go_wp2_with (go_at_call 97; refine (HC _).out.mono ?_; rintro e w3 ⟨rfl, hb3⟩)
      go_ret
      exact ⟨by rw [HKK.out]; rfl, (((Keep.refl [] w).alloc _).alloc _).nil (Keep.of_below hb3)⟩
    · rw [h2] at HKK
      have h2' : (spotErr p.tx != 0) = false := by simpa using h2
      have hN1 := Blk.new w 68 (PlC { p with k := 1 } (.slice A p.cs.length c))
      go_enter Tryz.func80, Tryz.ntmps80
      go_wp2_with fail
      refine (HC _).out.mono ?_
      rintro e w3 ⟨rfl, hb3⟩
      have hK3 : Keep [] w w3 := (((Keep.refl [] w).alloc _).alloc _).nil (Keep.of_below hb3)
      have hP3 : Blk w3 w.heap.size 68 (({ p with k := 1 } : PT).cells (.slice A p.cs.length c)).toArray := ((Blk.new w 68 _).alloc _).below hb3 (by simp; omega)
      have hQ3 : Blk w3 (w.heap.size + 1) 68 (({ p with k := 0 } : PT).cells (.slice none 0 0)).toArray := (Blk.new' (w.alloc (.cells (({ p with k := 1 } : PT).cells (.slice A p.cs.length c)).toArray 68)) 68 _ (w.heap.size + 1) (by simp)).below hb3 (by simp)
      obtain ⟨a0, a1, a2, a3, a4, a5, a6, az⟩ := part_all hP3
      obtain ⟨b0, b1, b2, b3, b4, b5, b6, bz⟩ := part_all hQ3
      have HK3 := Lib.hid hK3
      clear hP3 hQ3 hb3 hK3 hN1
      go_wp2
      all_goals
        go_ret
        exact ⟨by rw [HKK.out]; simp [*], HK3.out.setCell (.inr (by simp)) _⟩
  · rw [h1] at HKK
    go_enter Tryz.func80, Tryz.ntmps80
    go_wp2_with fail
    go_ret
    exact ⟨by rw [HKK.out]; rfl, ((Keep.refl [] w).alloc _).alloc _⟩

set_option maxRecDepth 100000 in
set_option maxHeartbeats 4000000 in
theorem plain_2 (p : PT) (h : Bool) (A : Option Addr) (c : Nat) (w : World) (hk : p.k = 2) :
    Calls Tryz.prog 80 #[.agg #[.int .i64 p.k, .string p.tx, .string p.nm, .string p.ty, .string p.st, .int .i64 p.off, .slice A p.cs.length c], .bool h] w fun e w' => e = .returned (.bool (plainB p h)) ∧ Keep [] w w' := by
  have hcs : ((p.cs.length : Int) == 0) = decide (p.cs.length = 0) := by rw [Bool.eq_iff_iff]; simp
  have ho : (p.off == 0) = decide (p.off = 0) := by rw [Bool.eq_iff_iff]; simp
  have HKK : Hid (plainB p h = (h && ((p.cs.length : Int) == 0) && p.tx.toList.isEmpty && p.nm.toList.isEmpty && p.ty.toList.isEmpty && p.st.toList.isEmpty && (p.off == 0))) := by
    unfold Hid plainB
    rw [if_neg (by omega), if_pos hk, emp, emp, emp, emp, hcs, ho]
  rw [hk]
  clear hcs ho
  cases h
  · go_enter Tryz.func80, Tryz.ntmps80
    go_wp2_with fail
    go_ret
    exact ⟨by rw [HKK.out]; simp, ((Keep.refl [] w).alloc _).alloc _⟩
  · go_enter Tryz.func80, Tryz.ntmps80
    go_wp2_with fail
    all_goals
      go_ret
      exact ⟨by rw [HKK.out]; simp [*], ((Keep.refl [] w).alloc _).alloc _⟩
set_option maxRecDepth 100000 in
set_option maxHeartbeats 4000000 in
theorem plain_x (p : PT) (h : Bool) (A : Option Addr) (c : Nat) (w : World) (hk : ¬ (p.k = 1 ∨ p.k = 2 ∨ p.k = 3 ∨ p.k = 4 ∨ p.k = 5 ∨ p.k = 6)) :
    Calls Tryz.prog 80 #[.agg #[.int .i64 p.k, .string p.tx, .string p.nm, .string p.ty, .string p.st, .int .i64 p.off, .slice A p.cs.length c], .bool h] w fun e w' => e = .returned (.bool (plainB p h)) ∧ Keep [] w w' := by
  have HKK : Hid (plainB p h = false) := by
    unfold Hid plainB
    rw [if_neg (by omega), if_neg (by omega), if_neg (by omega), if_neg (by omega)]
  have k1 : (p.k == 1) = false := by simp; omega
  have k2 : (p.k == 2) = false := by simp; omega
  have k3 : (p.k == 3) = false := by simp; omega
  have k4 : (p.k == 4) = false := by simp; omega
  have k5 : (p.k == 5) = false := by simp; omega
  have k6 : (p.k == 6) = false := by simp; omega
  clear hk
  go_enter Tryz.func80, Tryz.ntmps80
  go_wp2_with fail
  go_ret
  exact ⟨by rw [HKK.out]; rfl, ((Keep.refl [] w).alloc _).alloc _⟩
set_option maxRecDepth 100000 in
set_option maxHeartbeats 4000000 in
theorem plain_c (p : PT) (h : Bool) (A : Option Addr) (c : Nat) (w : World) (kk : Int) (hk : p.k = kk) (hkk : kk = 4 ∨ kk = 5 ∨ kk = 6) (hs : p.nm.size ≤ 1000000000) :
    Calls Tryz.prog 80 #[.agg #[.int .i64 p.k, .string p.tx, .string p.nm, .string p.ty, .string p.st, .int .i64 p.off, .slice A p.cs.length c], .bool h] w fun e w' => e = .returned (.bool (plainB p h)) ∧ Keep [] w w' := by
  have hcs : ((p.cs.length : Int) == 0) = decide (p.cs.length = 0) := by rw [Bool.eq_iff_iff]; simp
  have ho : (p.off == 0) = decide (p.off = 0) := by rw [Bool.eq_iff_iff]; simp
  have HKK : Hid (plainB p h = (decide (0 ≤ p.off) && decide (p.off ≤ 999999999) && (decide (kk ≠ 4) || (p.off == 0)) && !((p.cs.length : Int) == 0) && isNameB p.nm && p.tx.toList.isEmpty && p.ty.toList.isEmpty && p.st.toList.isEmpty)) := by
    unfold Hid plainB
    rw [if_neg (by omega), if_neg (by omega), if_neg (by omega), if_pos (by omega), emp, emp, emp, hcs, ho, hk]
  have HN : ∀ W, Hid (Calls Tryz.prog 101 #[.string p.nm] W fun e w' => e = .returned (.bool (isNameB p.nm)) ∧ W = w') := fun W => isName_any p.nm W (by omega)
  rw [hk]
  clear hcs ho hk
  generalize isNameB p.nm = q at *
  rcases hkk with rfl | rfl | rfl
  all_goals
    cases q
    all_goals
      go_enter Tryz.func80, Tryz.ntmps80
      go_wp2_with (go_at_call 101; refine (HN _).out.mono ?_; rintro e w3 ⟨rfl, rfl⟩)
      all_goals
        go_ret
        exact ⟨by rw [HKK.out]; simp [*] <;> first | omega | (clear HKK HN; simp at *; grind), ((Keep.refl [] w).alloc _).alloc _⟩
end Go.Proofs.YtmfoiceofhcicaaGreatDoor

namespace Go.Proofs.YtmfoiceofhcicaaGreatDoor
open Go.RowKit

set_option maxRecDepth 100000 in
set_option maxHeartbeats 400000 in
theorem rkey_any (k key : ByteArray) (pv : Value) (kb : Nat) (w : World) (hlt : kb < w.heap.size) (h : w.cell? ⟨kb, 0, none⟩ = some (.string key)) :
    Calls Tryz.prog 82 #[.agg #[.string k, pv], .pointer (some ⟨kb, 0, none⟩)] w fun e w' => e = .returned (.bool (decide (k = key))) ∧ Below w.heap.size w w' := by
  have HB := Lib.hid (bytes_beq k key)
  go_enter Tryz.func82, Tryz.ntmps82
  go_wp2
  go_ret
  exact ⟨ends_bool HB.out, (Below.refl _ _).alloc (Nat.le_refl _) _⟩
theorem caseC_take : ∀ (cs : List CT) (us : List Value) (k : Nat), us.length = cs.length → ∀ j, j < 2 * k → (caseC (cs.take k) (us.take k))[j]? = (caseC cs us)[j]?
  | [], [], k, _, j, _ => by simp [caseC]
  | c :: cs, u :: us, 0, _, j, hj => by omega
  | c :: cs, u :: us, k + 1, h, j, hj => by
    simp only [List.take_succ_cons, caseC]
    rcases Nat.lt_or_ge j 2 with h2 | h2
    · rw [List.getElem?_append_left (by simpa using h2), List.getElem?_append_left (by simpa using h2)]
    · rw [List.getElem?_append_right (by simpa using h2), List.getElem?_append_right (by simpa using h2)]
      exact caseC_take cs us k (by simpa using h) _ (by simp; omega)
theorem rdC_take {S : Nat → Prop} {w : World} {A : Option Addr} {cap : Nat} {cs : List CT} {us : List Value} (hu : us.length = cs.length) (h : RdC S w (.slice A cs.length cap) cs.length (caseC cs us)) {k : Nat} (hk : k ≤ cs.length) :
    RdC S w (.slice A k cap) (cs.take k).length (caseC (cs.take k) (us.take k)) := by
  obtain ⟨A2, c2, he, h1, h2, h3⟩ := h
  injection he with e1 _ e3
  subst e1; subst e3
  have hl : (cs.take k).length = k := by simp; omega
  rw [hl]
  refine ⟨A, cap, rfl, by omega, h2, fun h0 => ?_⟩
  obtain ⟨b, o, hA, hS, hb, hc⟩ := h3 (by omega)
  refine ⟨b, o, hA, hS, hb, fun j u hj => hc j u ?_⟩
  have hlen := (List.getElem?_eq_some_iff.1 hj).1
  rw [caseC_length _ _ (by simp [hu]), hl] at hlen
  rw [← caseC_take cs us k hu j (by omega)]
  exact hj
/-- Is there a case with a key among the first ones? -/
theorem twice_any {n : Nat} {S : Nat → Prop} {A : Option Addr} {cap : Nat} {cs : List CT} (key : ByteArray) (kb k : Nat) (w : World) (h : LiesC n S w (.slice A cs.length cap) cs) (hk : k ≤ cs.length) (hlt : kb < w.heap.size) (hc : w.cell? ⟨kb, 0, none⟩ = some (.string key)) (hl : cs.length ≤ 1000000000) :
    Calls Tryz.prog 81 #[.slice A k cap, .func (.func 82) #[] #[.pointer (some ⟨kb, 0, none⟩)]] w fun e w' => e = .returned (.bool (memW ((cs.take k).map Prod.fst) key)) ∧ Keep [] w w' := by
  obtain ⟨us, hu, hr, _⟩ := h
  exact (hasCase_any 82 #[.pointer (some ⟨kb, 0, none⟩)] (fun k => decide (k = key)) (enters_of Tryz.func82 (by kernel_rfl) rfl) S _ (cs.take k) (us.take k) (by simp [hu]) w
    (fun k pv W hb => rkey_any k key pv kb W (Nat.lt_of_lt_of_le hlt hb.size) ((hb.cell (p := ⟨kb, 0, none⟩) hlt).trans hc)) (rdC_take hu hr hk) (by simp; omega)).mono fun e w' ⟨h1, h2⟩ => ⟨h1, Keep.of_below h2⟩

/-- plain is right at a part. -/
def PlainOK (p : PT) : Prop := ∀ (h : Bool) (A : Option Addr) (c : Nat) (B : Nat) (w : World), EnvM B w →
  Calls Tryz.prog 80 #[.agg #[.int .i64 p.k, .string p.tx, .string p.nm, .string p.ty, .string p.st, .int .i64 p.off, .slice A p.cs.length c], .bool h] w fun e w' => e = .returned (.bool (plainB p h)) ∧ Keep [] w w'
def allF (Q : PT → Prop) : Nat → List PT → Prop
  | 0, _ => True
  | n + 1, l => ∀ p ∈ l, Q p ∧ ∀ c ∈ p.cs, allF Q n c.2
/-- The kind ahead of a place. -/
def prevK (l : List PT) : Nat → Int
  | 0 => 0
  | k + 1 => match l[k]? with | some p => p.k | none => 0

/-- right is right, n deep. -/
def RightC (n : Nat) : Prop := ∀ (l : List PT) (h : Bool) (S : Nat → Prop) (v : Value) (B : Nat) (w : World), EnvM B w → Lies n S w v l → allF PlainOK n l → bulkF n l ≤ 1000000000 →
    Calls Tryz.prog 54 #[v, .bool h] w fun e w' => e = .returned (.bool (rightF n l h)) ∧ Keep [] w w'
set_option maxRecDepth 100000 in
set_option maxHeartbeats 8000000 in
/-- right: a step deeper. -/
theorem right_step (n : Nat) (ih : RightC n) : RightC (n + 1) := by
  intro l h S v B w hE hh hq hb
  obtain ⟨A, cap, rfl, hml, hat⟩ := lies_open hh
  have HAT := Lib.hid hat
  have HIH := Lib.hid ih
  have HE := Lib.hid hE
  have HQ := Lib.hid hq
  have hll : l.length ≤ 1000000000 := by have := bulkL_len (bulkF n) l; simp only [bulkF] at hb; omega
  have HB := Lib.hid hb
  obtain ⟨RR, hRR⟩ : ∃ b, rightF (n + 1) l h = b := ⟨_, rfl⟩
  have HRR : Hid (rightL (rightF n) h 0 l = RR) := hRR
  rw [hRR]
  clear hh hat hml hb hE hq hRR
  go_enter Tryz.func54, Tryz.ntmps54
  go_wp2
  go_loopw [13] (fun i wr => ∃ k : Nat, k ≤ l.length ∧ i = .int .i64 k ∧ Keep [] w wr ∧ rightL (rightF n) h (prevK l k) (l.drop k) = RR) (fun i _ => l.length - (intOf i).toNat)
  case atStart => exact ⟨0, Nat.zero_le _, rfl, Keep.refl _ _, HRR.out⟩
  case round =>
    obtain ⟨k, hk, rfl, hK, hF⟩ := hrel
    have HK := Lib.hid hK
    have HF := Lib.hid hF
    clear hK hF
    by_cases hlt : k < l.length
    · obtain ⟨p, hp⟩ : ∃ p, l[k]? = some p := ⟨_, List.getElem?_eq_getElem hlt⟩
      obtain ⟨b, o, cv, rfl, hb, hP, hC⟩ := HAT.out k p hp
      obtain ⟨a0, a1, a2, a3, a4, a5, a6⟩ := hP.keep HK.out hb
      have hC1 := hC.keep HK.out (by simp)
      obtain ⟨Ac, cc, rfl⟩ := hC1.formL
      have hpm : p ∈ l := List.mem_of_getElem? hp
      have HPL := Lib.hid (HQ.out p hpm).1
      have HCQ := Lib.hid (HQ.out p hpm).2
      have hbk := bulkL_at (bulkF n) l k p hp
      have hbL : bulkL (bulkF n) l ≤ 1000000000 := HB.out
      have HC := Lib.hid hC1
      have hcl : p.cs.length ≤ 1000000000 := by have := bulkC_len (bulkF n) p.cs; omega
      have hbr := Nat.lt_of_lt_of_le hb HK.out.size
      have hdr : l.drop k = p :: l.drop (k + 1) := by
        rw [List.drop_eq_getElem_cons hlt, (List.getElem?_eq_some_iff.1 hp).2]
      have hF2 := HF.out
      rw [hdr, rightL] at hF2
      have HF2 := Lib.hid hF2
      have HPK : Hid (prevK l (k + 1) = p.k) := by show (match l[k]? with | some p => p.k | none => 0) = p.k; rw [hp]
      have HE1 := Lib.hid (HE.out.keep HK.out (by simp))
      have HPC := fun W (hW : Keep [] wr W) => Lib.hid (HPL.out h Ac cc B W (HE1.out.keep hW (by simp)))
      have hkx : Keep [] wr (wr.alloc (.cells #[.int .i64 p.k, .string p.tx, .string p.nm, .string p.ty, .string p.st, .int .i64 p.off, .slice Ac p.cs.length cc] 68)) := (Keep.refl [] wr).alloc _
      have HKX := Lib.hid hkx
      clear hP hC hC1 hdr hF2 HF hp hpm hkx
      cases hpl : plainB p h
      · rw [hpl] at HPC
        have HR : Hid (RR = false) := by unfold Hid; rw [← HF2.out, hpl]; rfl
        clear hpl HF2
        go_wp2_with (go_at_call 80; refine (HPC _ HKX.out).out.mono ?_; rintro e w3 ⟨rfl, hk3⟩)
        go_ret
        exact ⟨by rw [HR.out]; rfl, (HK.out.nil HKX.out).nil hk3⟩
      · rw [hpl] at HPC
        have HF3 : Hid ((!(p.k == 1 && prevK l k == 1) && caseR (fun m => rightF n m (decide (p.k ≠ 4))) p.k [] p.cs && otherB p && rightL (rightF n) h p.k (l.drop (k + 1))) = RR) := by
          have := HF2.out
          rw [hpl, Bool.true_and] at this
          exact this
        clear hpl HF2
        obtain ⟨two, htwo⟩ : ∃ two : Bool, (p.k == 1 && prevK l k == 1) = two := ⟨_, rfl⟩
        rw [htwo] at HF3
        have HTW := Lib.hid htwo
        have hBX : Blk (wr.alloc (.cells #[.int .i64 p.k, .string p.tx, .string p.nm, .string p.ty, .string p.st, .int .i64 p.off, .slice Ac p.cs.length cc] 68)) wr.heap.size 68 (p.cells (.slice Ac p.cs.length cc)).toArray := Blk.new _ _ _
        have HBX := Lib.hid hBX
        clear htwo hBX
        go_upto_region 4 with fail
        generalize wr.alloc (.cells #[.int .i64 p.k, .string p.tx, .string p.nm, .string p.ty, .string p.st, .int .i64 p.off, .slice Ac p.cs.length cc] 68) = W1 at *
        generalize wr.heap.size = bx at *
        have HK1 := Lib.hid (HK.out.nil HKX.out)
        have hp0 : ∀ k', k = k' + 1 → ∃ p', l[k']? = some p' := fun k' hk' => ⟨_, List.getElem?_eq_getElem (by omega)⟩
        clear a0 a1 a2 a3 a4 a5 a6
        go_cut [39] (fun u W => u = .bool two ∧ Keep [] W1 W)
        case first =>
          obtain ⟨q0, q1, q2, q3, q4, q5, q6, qz⟩ := part_all HBX.out
          rcases k with _ | k'
          · have h2 : Hid (two = false) := by unfold Hid; rw [← HTW.out]; show (p.k == 1 && (0 : Int) == 1) = false; simp
            clear hp0
            go_wp2_with (go_at_call 80; refine (HPC _ HKX.out).out.mono ?_; rintro e w3 ⟨rfl, hk3⟩)
            go_meet
            exact ⟨by rw [h2.out], hk3⟩
          · obtain ⟨p', hp'⟩ := hp0 k' rfl
            obtain ⟨b', o', cv', hA', hb', hP', _⟩ := HAT.out k' p' hp'
            injection hA' with hA'
            injection hA' with h1 h2
            subst h1; subst h2
            have hkc := hP'.1
            have hpk : prevK l (k' + 1) = p'.k := by show (match l[k']? with | some p => p.k | none => 0) = p'.k; rw [hp']
            have HT2 : Hid ((p.k == 1 && p'.k == 1) = two) := by unfold Hid; rw [← hpk]; exact HTW.out
            have HKC := Lib.hid hkc
            clear hp0 hp' hP' hkc hpk
            have s1 : ((k' + 1 : Nat) : Int) - 1 = (k' : Int) := by omega
            have s2 : (0 : Int) < ((k' + 1 : Nat) : Int) := by omega
            have s3 : (k' : Int) < (l.length : Int) := by omega
            go_wp2_with (go_at_call 80; refine (HPC _ HKX.out).out.mono ?_; rintro e w3 ⟨rfl, hk3⟩; obtain ⟨r0, r1, r2, r3, r4, r5, r6, rz⟩ := part_all (HBX.out.keep hk3 (by simp)); have rk := ((HK1.out.nil hk3).cell (p := ⟨b, o + k' * 7, none⟩) hb (by simp)).trans HKC.out)
            all_goals
              go_meet
              refine ⟨?_, hk3⟩
              rw [← HT2.out]
              clear HPC HF3 HCQ HPL HE1 HC HAT HIH HQ HRR HTW HBX HK1 HKX HK HE HB HT2
              simp [*]
        case rest =>
          obtain ⟨rfl, hk3⟩ := hcut
          have HBX3 := Lib.hid (HBX.out.keep hk3 (by simp))
          have HC3 := Lib.hid ((HC.out.keep HKX.out (by simp)).keep hk3 (by simp))
          have HE3 := Lib.hid ((HE1.out.keep HKX.out (by simp)).keep hk3 (by simp))
          have HK3 := Lib.hid (HK1.out.nil hk3)
          obtain ⟨q0, q1, q2, q3, q4, q5, q6, qz⟩ := part_all HBX3.out
          clear hk3 HBX HC HE1 HPC hp0
          cases two
          case true =>
            have HR : Hid (RR = false) := by unfold Hid; rw [← HF3.out]; rfl
            go_wp2
            go_ret
            exact ⟨by rw [HR.out]; rfl, HK3.out⟩
          case false =>
            have HF4 : Hid ((caseR (fun m => rightF n m (decide (p.k ≠ 4))) p.k [] p.cs && otherB p && rightL (rightF n) h p.k (l.drop (k + 1))) = RR) := by
              have := HF3.out
              rw [Bool.not_false, Bool.true_and] at this
              exact this
            clear HF3
            obtain ⟨A2, cap2, he, _, hcat⟩ := liesC_open HC3.out
            injection he with he1 he2 he3
            subst he1; subst he3
            have HCAT := Lib.hid hcat
            clear hcat he2
            generalize hwc : wc = W2 at *
            clear hwc
            obtain ⟨CR, hCR⟩ : ∃ CR, caseR (fun m => rightF n m (decide (p.k ≠ 4))) p.k [] p.cs = CR := ⟨_, rfl⟩
            rw [hCR] at HF4
            have HCR := Lib.hid hCR
            clear hCR
            go_wp2
            go_loopw [7, 46] (fun t j wx => ∃ m : Nat, m ≤ p.cs.length ∧ j = .int .i64 m ∧ t = .bool (decide (p.k < 4) || memW ((p.cs.map Prod.fst).take m) otherW) ∧ Keep [] W2 wx ∧ caseR (fun m => rightF n m (decide (p.k ≠ 4))) p.k ((p.cs.take m).map Prod.fst) (p.cs.drop m) = CR) (fun _ j _ => p.cs.length - (intOf j).toNat)
            case atStart => exact ⟨0, Nat.zero_le _, rfl, by simp [memW], Keep.refl _ _, HCR.out⟩
            case round =>
              obtain ⟨m, hm, rfl, rfl, hKi, hG⟩ := hrel
              have HKi := Lib.hid hKi
              have HG := Lib.hid hG
              clear hKi hG q0 q1 q2 q3 q4 q5 q6
              obtain ⟨q0, q1, q2, q3, q4, q5, q6, qz⟩ := part_all (HBX3.out.keep HKi.out (by simp))
              by_cases hlt2 : m < p.cs.length
              · obtain ⟨c, hc⟩ : ∃ c, p.cs[m]? = some c := ⟨_, List.getElem?_eq_getElem hlt2⟩
                obtain ⟨b2, o2, pv, rfl, hb2, e1, e2, hL⟩ := HCAT.out m c hc
                have e1' := (HKi.out.cell (p := ⟨b2, o2 + m * 2, none⟩) hb2 (by simp)).trans e1
                have e2' := (HKi.out.cell (p := ⟨b2, o2 + m * 2 + 1, none⟩) hb2 (by simp)).trans e2
                obtain ⟨Ap, mp, kp, rfl⟩ := hL.form
                have hbr2 := Nat.lt_of_lt_of_le hb2 HKi.out.size
                have hbc := bulkC_at (bulkF n) p.cs m c hc
                have hcm : c ∈ p.cs := List.mem_of_getElem? hc
                have HAQ := Lib.hid (HCQ.out c hcm)
                have hdr : p.cs.drop m = c :: p.cs.drop (m + 1) := by
                  rw [List.drop_eq_getElem_cons hlt2, (List.getElem?_eq_some_iff.1 hc).2]
                have hkeys : (p.cs.take (m + 1)).map Prod.fst = (p.cs.take m).map Prod.fst ++ [c.1] := by rw [take_snoc' hc]; simp
                have HKY := Lib.hid hkeys
                have hG2 := HG.out
                rw [hdr, caseR] at hG2
                have HG2 : Hid ((!memW ((p.cs.take m).map Prod.fst) c.1 && isKeyB p.k c.1 && rightF n c.2 (decide (p.k ≠ 4)) && caseR (fun m => rightF n m (decide (p.k ≠ 4))) p.k ((p.cs.take (m + 1)).map Prod.fst) (p.cs.drop (m + 1))) = CR) := by
                  unfold Hid
                  rw [hkeys]; exact hG2
                have HLQ := Lib.hid hL
                have hEi := HE3.out.keep HKi.out (by simp)
                have HEi := Lib.hid hEi
                have hk4 : (p.k != 4) = decide (p.k ≠ 4) := by rw [Bool.eq_iff_iff]; simp
                have HTC : Hid (∀ kb W, Keep [] wr W → kb < W.heap.size → W.cell? ⟨kb, 0, none⟩ = some (.string c.1) → Calls Tryz.prog 81 #[.slice (some ⟨b2, o2, none⟩) m cc, .func (.func 82) #[] #[.pointer (some ⟨kb, 0, none⟩)]] W fun e w' => e = .returned (.bool (memW ((p.cs.take m).map Prod.fst) c.1)) ∧ Keep [] W w') := fun kb W hW hlt hc =>
                  twice_any c.1 kb m W ((HC3.out.keep HKi.out (by simp)).keep hW (by simp)) hm hlt hc hcl
                have HKC : Hid (∀ W, Keep [] wr W → Calls Tryz.prog 83 #[.string c.1, .int .i64 p.k] W fun e w' => e = .returned (.bool (isKeyB p.k c.1)) ∧ Keep [] W w') := fun W hW => isKey_any c.1 p.k W (HEi.out.keep hW (by simp)) (by omega)
                have HRC : Hid (∀ W, Keep [] wr W → Calls Tryz.prog 54 #[.slice Ap mp kp, .bool (p.k != 4)] W fun e w' => e = .returned (.bool (rightF n c.2 (decide (p.k ≠ 4)))) ∧ Keep [] W w') := fun W hW => hk4 ▸ HIH.out c.2 _ S _ B W (HEi.out.keep hW (by simp)) ((hL.keep HKi.out (by simp)).keep hW (by simp)) HAQ.out (by omega)
                have HOW : Hid ((c.1.toList == [111, 116, 104, 101, 114]) = decide (c.1 = otherW)) := by
                  unfold Hid
                  rw [← bytes_beq]
                  rw [show otherW.toList = [111, 116, 104, 101, 114] from by rw [ByteArray.toList_eq]; rfl]
                generalize memW ((p.cs.take m).map Prod.fst) c.1 = tw at *
                generalize isKeyB p.k c.1 = ik at *
                generalize rightF n c.2 (decide (p.k ≠ 4)) = rc at *
                clear e1 e2 hL hc hcm hdr hkeys hG2 HG hEi hk4 HCQ HAQ HLQ
                have hkx : Keep [] wr (wr.alloc (.cells #[.string c.1, .slice Ap mp kp] 70)) := (Keep.refl [] wr).alloc _
                have HKY2 := Lib.hid hkx
                have HBY := Lib.hid (Blk.new wr 70 #[.string c.1, .slice Ap mp kp])
                have hbx : bx < wr.heap.size := (HBX3.out.keep HKi.out (by simp)).lt
                go_upto_region 10 with fail
                have HBX4 := Lib.hid ((HBX3.out.keep HKi.out (by simp)).keep HKY2.out (by simp))
                have HKW := Lib.hid ((HK3.out.nil HKi.out).nil HKY2.out)
                have HKV := Lib.hid (HKi.out.nil HKY2.out)
                clear q0 q1 q2 q3 q4 q5 q6
                obtain ⟨q0, q1, q2, q3, q4, q5, q6, qz⟩ := part_all HBX4.out
                generalize wr.alloc (.cells #[.string c.1, .slice Ap mp kp] 70) = W3 at *
                generalize wr.heap.size = cb at *
                have hob : (decide (p.k < 4) || memW ((p.cs.map Prod.fst).take (m + 1)) otherW) = ((decide (p.k < 4) || memW ((p.cs.map Prod.fst).take m) otherW) || decide (c.1 = otherW)) := by
                  rw [← List.map_take, HKY.out, ← List.map_take]
                  unfold memW
                  simp [List.any_append, Bool.or_assoc]
                have HOB := Lib.hid hob
                clear hob
                generalize (decide (p.k < 4) || memW ((p.cs.map Prod.fst).take m) otherW) = ob at *
                have fin : RR = false → ∀ W, Keep [] W3 W → (Ending.returned (Value.bool false) = Ending.returned (.bool RR) ∧ Keep [] w W) := fun h W hW => ⟨by rw [h], HKW.out.nil hW⟩
                have HFIN := Lib.hid fin
                clear fin
                have hcc : p.cs.length ≤ cc := by
                  obtain ⟨_, _, ⟨A3, c3, he3, h13, _⟩, _⟩ := HC3.out
                  injection he3 with _ _ e3
                  omega
                have hmc : m ≤ cc := by omega
                have hmc' : (m : Int) ≤ cc := by omega
                cases tw
                case true =>
                  have HR : Hid (RR = false) := by unfold Hid; rw [← HF4.out, ← HG2.out]; rfl
                  go_wp2_with (go_at_call 81; refine (HTC.out cb _ HKY2.out HBY.out.lt (HBY.out.cell_eq rfl)).mono ?_; rintro e w4 ⟨rfl, hk4⟩; obtain ⟨y0, y1, y2, y3, y4, y5, y6, yz⟩ := part_all (HBX4.out.keep hk4 (by simp)); have c40 := (HBY.out.keep hk4 (by simp)).cell_eq (i := 0) rfl; have c41 := (HBY.out.keep hk4 (by simp)).cell_eq (i := 1) rfl; have HK4w := Lib.hid hk4; clear hk4)
                  go_ret
                  exact HFIN.out HR.out _ HK4w.out
                case false =>
                  cases ik
                  case false =>
                    have HR : Hid (RR = false) := by unfold Hid; rw [← HF4.out, ← HG2.out]; rfl
                    go_wp2_with (first | (go_at_call 81; refine (HTC.out cb _ HKY2.out HBY.out.lt (HBY.out.cell_eq rfl)).mono ?_; rintro e w4 ⟨rfl, hk4⟩; obtain ⟨y0, y1, y2, y3, y4, y5, y6, yz⟩ := part_all (HBX4.out.keep hk4 (by simp)); have c40 := (HBY.out.keep hk4 (by simp)).cell_eq (i := 0) rfl; have c41 := (HBY.out.keep hk4 (by simp)).cell_eq (i := 1) rfl; have HK4w := Lib.hid hk4; clear hk4) | (go_at_call 83; refine (HKC.out _ (HKY2.out.nil HK4w.out)).mono ?_; rintro e w5 ⟨rfl, hk5⟩; have HK5w := Lib.hid (HK4w.out.nil hk5); obtain ⟨z0, z1, z2, z3, z4, z5, z6, zz⟩ := part_all (HBX4.out.keep HK5w.out (by simp)); have c50 := (HBY.out.keep HK5w.out (by simp)).cell_eq (i := 0) rfl; have c51 := (HBY.out.keep HK5w.out (by simp)).cell_eq (i := 1) rfl; clear hk5))
                    go_ret
                    exact HFIN.out HR.out _ HK5w.out
                  case true =>
                    cases rc
                    case false =>
                      have HR : Hid (RR = false) := by unfold Hid; rw [← HF4.out, ← HG2.out]; rfl
                      go_wp2_with (first | (go_at_call 81; refine (HTC.out cb _ HKY2.out HBY.out.lt (HBY.out.cell_eq rfl)).mono ?_; rintro e w4 ⟨rfl, hk4⟩; obtain ⟨y0, y1, y2, y3, y4, y5, y6, yz⟩ := part_all (HBX4.out.keep hk4 (by simp)); have c40 := (HBY.out.keep hk4 (by simp)).cell_eq (i := 0) rfl; have c41 := (HBY.out.keep hk4 (by simp)).cell_eq (i := 1) rfl; have HK4w := Lib.hid hk4; clear hk4) | (go_at_call 83; refine (HKC.out _ (HKY2.out.nil HK4w.out)).mono ?_; rintro e w5 ⟨rfl, hk5⟩; have HK5w := Lib.hid (HK4w.out.nil hk5); obtain ⟨z0, z1, z2, z3, z4, z5, z6, zz⟩ := part_all (HBX4.out.keep HK5w.out (by simp)); have c50 := (HBY.out.keep HK5w.out (by simp)).cell_eq (i := 0) rfl; have c51 := (HBY.out.keep HK5w.out (by simp)).cell_eq (i := 1) rfl; clear hk5) | (go_at_call 54; refine (HRC.out _ (HKY2.out.nil HK5w.out)).mono ?_; rintro e w6 ⟨rfl, hk6⟩; have HK6w := Lib.hid (HK5w.out.nil hk6); have c60 := (HBY.out.keep HK6w.out (by simp)).cell_eq (i := 0) rfl; clear hk6))
                      go_ret
                      exact HFIN.out HR.out _ HK6w.out
                    case true =>
                      have HG3 : Hid (caseR (fun m => rightF n m (decide (p.k ≠ 4))) p.k ((p.cs.take (m + 1)).map Prod.fst) (p.cs.drop (m + 1)) = CR) := HG2.out
                      cases ob
                      · go_wp2_with (first | (go_at_call 81; refine (HTC.out cb _ HKY2.out HBY.out.lt (HBY.out.cell_eq rfl)).mono ?_; rintro e w4 ⟨rfl, hk4⟩; obtain ⟨y0, y1, y2, y3, y4, y5, y6, yz⟩ := part_all (HBX4.out.keep hk4 (by simp)); have c40 := (HBY.out.keep hk4 (by simp)).cell_eq (i := 0) rfl; have c41 := (HBY.out.keep hk4 (by simp)).cell_eq (i := 1) rfl; have HK4w := Lib.hid hk4; clear hk4) | (go_at_call 83; refine (HKC.out _ (HKY2.out.nil HK4w.out)).mono ?_; rintro e w5 ⟨rfl, hk5⟩; have HK5w := Lib.hid (HK4w.out.nil hk5); obtain ⟨z0, z1, z2, z3, z4, z5, z6, zz⟩ := part_all (HBX4.out.keep HK5w.out (by simp)); have c50 := (HBY.out.keep HK5w.out (by simp)).cell_eq (i := 0) rfl; have c51 := (HBY.out.keep HK5w.out (by simp)).cell_eq (i := 1) rfl; clear hk5) | (go_at_call 54; refine (HRC.out _ (HKY2.out.nil HK5w.out)).mono ?_; rintro e w6 ⟨rfl, hk6⟩; have HK6w := Lib.hid (HK5w.out.nil hk6); have c60 := (HBY.out.keep HK6w.out (by simp)).cell_eq (i := 0) rfl; clear hk6))
                        go_roundw
                        case rel => exact ⟨m + 1, by omega, by go_num, by rw [HOB.out, ← HOW.out]; rfl, HKV.out.nil HK6w.out, HG3.out⟩
                        case measure => simp [intOf]; omega
                      · go_wp2_with (first | (go_at_call 81; refine (HTC.out cb _ HKY2.out HBY.out.lt (HBY.out.cell_eq rfl)).mono ?_; rintro e w4 ⟨rfl, hk4⟩; obtain ⟨y0, y1, y2, y3, y4, y5, y6, yz⟩ := part_all (HBX4.out.keep hk4 (by simp)); have c40 := (HBY.out.keep hk4 (by simp)).cell_eq (i := 0) rfl; have c41 := (HBY.out.keep hk4 (by simp)).cell_eq (i := 1) rfl; have HK4w := Lib.hid hk4; clear hk4) | (go_at_call 83; refine (HKC.out _ (HKY2.out.nil HK4w.out)).mono ?_; rintro e w5 ⟨rfl, hk5⟩; have HK5w := Lib.hid (HK4w.out.nil hk5); obtain ⟨z0, z1, z2, z3, z4, z5, z6, zz⟩ := part_all (HBX4.out.keep HK5w.out (by simp)); have c50 := (HBY.out.keep HK5w.out (by simp)).cell_eq (i := 0) rfl; have c51 := (HBY.out.keep HK5w.out (by simp)).cell_eq (i := 1) rfl; clear hk5) | (go_at_call 54; refine (HRC.out _ (HKY2.out.nil HK5w.out)).mono ?_; rintro e w6 ⟨rfl, hk6⟩; have HK6w := Lib.hid (HK5w.out.nil hk6); have c60 := (HBY.out.keep HK6w.out (by simp)).cell_eq (i := 0) rfl; clear hk6))
                        go_roundw
                        case rel => exact ⟨m + 1, by omega, by go_num, by rw [HOB.out]; rfl, HKV.out.nil HK6w.out, HG3.out⟩
                        case measure => simp [intOf]; omega
              · obtain rfl : m = p.cs.length := by omega
                have hG2 := HG.out
                rw [List.drop_length] at hG2
                have HG2 : Hid (CR = true) := hG2.symm
                have HF5 : Hid ((otherB p && rightL (rightF n) h p.k (l.drop (k + 1))) = RR) := by have := HF4.out; rw [HG2.out, Bool.true_and] at this; exact this
                rw [show (p.cs.map Prod.fst).take p.cs.length = p.cs.map Prod.fst from List.take_of_length_le (by simp)]
                have HOB : Hid ((decide (p.k < 4) || memW (p.cs.map Prod.fst) otherW) = otherB p) := rfl
                generalize (decide (p.k < 4) || memW (p.cs.map Prod.fst) otherW) = ob at *
                cases ob
                · have HR : Hid (RR = false) := by unfold Hid; rw [← HF5.out, ← HOB.out]; rfl
                  go_wp2
                  go_ret
                  exact ⟨by rw [HR.out]; rfl, HK3.out.nil HKi.out⟩
                · have HF6 : Hid (rightL (rightF n) h p.k (l.drop (k + 1)) = RR) := by have := HF5.out; rw [← HOB.out, Bool.true_and] at this; exact this
                  go_wp2
                  go_roundw
                  case rel => exact ⟨k + 1, by omega, by go_num, HK3.out.nil HKi.out, by rw [HPK.out]; exact HF6.out⟩
                  case measure => simp [intOf]; omega
    · have hF := HF.out
      rw [List.drop_eq_nil_of_le (by omega)] at hF
      have HR : Hid (RR = true) := hF.symm
      clear hF
      go_wp2
      go_ret
      exact ⟨by rw [HR.out]; rfl, HK.out⟩
/-- right. -/
theorem right_any : ∀ (n : Nat), RightC n
  | 0 => fun _ _ _ _ _ _ _ hh _ _ => hh.elim
  | n + 1 => right_step n (right_any n)
end Go.Proofs.YtmfoiceofhcicaaGreatDoor

namespace Go.Proofs.YtmfoiceofhcicaaGreatDoor
open Go.RowKit

/-! ### how long the one form can be -/
theorem dressL_len (h : Bool) (l : List UInt8) : (dressL h l).length ≤ 2 * l.length + 2 := by
  unfold dressL
  split
  · rename_i ha
    have h1 := first_last ha
    have h2 := lastN_le (specB h) l
    have d1 := dbl_le (l.take (l.findIdx (specB h)))
    have d2 := dbl_le ((l.take (lastN (specB h) l)).drop (l.findIdx (specB h)))
    have d3 := dbl_le (l.drop (lastN (specB h) l))
    simp only [List.length_append, List.length_take, List.length_drop, List.length_singleton] at *
    omega
  · have := dbl_le l; omega
theorem offW_len : offW.length = 7 := rfl
theorem wordB_len (k : Int) : (wordB k).data.toList.length ≤ 13 := by
  unfold wordB
  split
  · decide
  · split <;> decide
/-- The offset of a choice that may be. -/
def offOK (p : PT) : Prop := 0 ≤ p.off ∧ p.off ≤ 999999999
/-- strings.Builder's frame: below b all stands; so do all others but rows of bytes. -/
structure BK2 (b : Nat) (w w' : World) : Prop where
  below : Below b w w'
  others : Lib.OthersKept 5 (some b) w w'
theorem BK2.refl (b : Nat) (w : World) : BK2 b w w := ⟨Below.refl _ _, Lib.OthersKept.refl _ _ _⟩
theorem BK2.trans {b : Nat} {a c d : World} (h : BK2 b a c) (k : BK2 b c d) : BK2 b a d := ⟨h.below.trans k.below, h.others.trans k.others⟩
theorem BK2.alloc {b : Nat} {a c : World} (h : BK2 b a c) (hb : b ≤ c.heap.size) (o : Obj) : BK2 b a (c.alloc o) := ⟨h.below.alloc hb _, h.others.alloc _⟩
theorem BK2.keep {b : Nat} {a c d : World} (h : BK2 b a c) (k : Keep [] c d) (hb : b ≤ c.heap.size) : BK2 b a d :=
  ⟨h.below.trans (k.toBelow.mono hb), h.others.trans (fun i o hi _ _ => (k.block i (Array.getElem?_eq_some_iff.1 hi).1 (by simp)).trans hi)⟩
theorem BK2.blk {b : Nat} {a c : World} (h : BK2 b a c) {g : Nat} {t : TypeId} {cs : Array Value} (hg : Blk a g t cs) (h1 : t ≠ 5) (h2 : g ≠ b) : Blk c g t cs :=
  h.others g _ hg (by simpa using h2) (fun c fz hc => by injection hc with _ ht; exact h1 ht)
end Go.Proofs.YtmfoiceofhcicaaGreatDoor

namespace Go.Proofs.YtmfoiceofhcicaaGreatDoor
open Go.RowKit

theorem Keep.of_below_all {b : Nat} {w w' : World} (h : Below b w w') (hs : w.heap.size ≤ w'.heap.size) : Keep ((List.range w.heap.size).filter (fun k => decide (b ≤ k))) w w' :=
  ⟨h.os, h.tape, h.output, hs, fun k hk hn => h.block k (by simp at hn; omega)⟩
theorem Lies.below {n : Nat} {S : Nat → Prop} {w w' : World} {v : Value} {l : List PT} {b : Nat} (h : Lies n S w v l) (hb : Below b w w') (hS : ∀ x, S x → x < b) : Lies n S w' v l :=
  h.keep (Keep.of_below_all hb hb.size) (fun x hx hc => by have := hS x hc; simp at hx; omega)
theorem LiesC.below {n : Nat} {S : Nat → Prop} {w w' : World} {v : Value} {l : List CT} {b : Nat} (h : LiesC n S w v l) (hb : Below b w w') (hS : ∀ x, S x → x < b) : LiesC n S w' v l :=
  h.keep (Keep.of_below_all hb hb.size) (fun x hx hc => by have := hS x hc; simp at hx; omega)
def allO (Q : PT → Prop) : Nat → List PT → Prop
  | 0, _ => True
  | n + 1, l => ∀ p ∈ l, Q p ∧ ∀ c ∈ p.cs, allO Q n c.2
theorem writeL_append (W : List PT → Bool → List UInt8) (h : Bool) : ∀ (a b : List PT), writeL W h (a ++ b) = writeL W h a ++ writeL W h b
  | [], _ => rfl
  | p :: a, b => by simp only [List.cons_append, writeL, writeL_append W h a b, List.append_assoc]
/-- What write leaves behind. -/
def WPost (b : Nat) (acc out : List UInt8) (w : World) (e : Ending) (w' : World) : Prop := e = .returned (.tuple #[]) ∧ Bld b (acc ++ out) w' ∧ BK2 b w w'
/-- write is right, n deep. -/
def WriteC (n : Nat) : Prop := ∀ (l : List PT) (h : Bool) (S : Nat → Prop) (v : Value) (b : Nat) (acc : List UInt8) (B : Nat) (w : World), EnvM B w → B ≤ b → Lies n S w v l → (∀ x, S x → x < b) → Bld b acc w → allO offOK n l → bulkF n l ≤ 1000000000 → acc.length + 100 * bulkF n l ≤ 100000000000 →
  Calls Tryz.prog 55 #[.pointer (some ⟨b, 0, none⟩), v, .bool h] w (WPost b acc (writeF n l h) w)

theorem itoa_off {p : PT} (h : offOK p) : (Lib.itoa p.off).length ≤ 21 := Lib.itoa_length_le p.off (by have := h.1; omega) (by have := h.2; omega)
theorem allO_len : ∀ (n : Nat) (l : List PT) (h : Bool), allO offOK n l → (writeF n l h).length ≤ 100 * bulkF n l
  | 0, _, _, _ => by simp [writeF]
  | n + 1, l, h, ho => by
    have key : ∀ (l : List PT), (∀ p ∈ l, offOK p ∧ ∀ c ∈ p.cs, allO offOK n c.2) → (writeL (writeF n) h l).length ≤ 100 * bulkL (bulkF n) l := fun l => by
      induction l with
      | nil => intro _; simp [writeL]
      | cons p l ih =>
        intro ho
        have h1 := ih (fun q hq => ho q (List.mem_cons_of_mem _ hq))
        obtain ⟨hp, hc⟩ := ho p (List.mem_cons_self ..)
        have h2 : (partW (writeF n) h p).length ≤ 100 * (1 + p.tx.size + p.nm.size + p.ty.size + p.st.size + bulkC (bulkF n) p.cs) := by
          have hcw : ∀ (b : Bool) (g : Bool) (cs : List CT), (∀ c ∈ cs, allO offOK n c.2) → (caseW (fun m => writeF n m g) b cs).length ≤ 100 * bulkC (bulkF n) cs := fun b g cs => by
            induction cs generalizing b with
            | nil => intro _; simp [caseW]
            | cons c cs ih2 =>
              intro hc
              have q1 := ih2 true (fun d hd => hc d (List.mem_cons_of_mem _ hd))
              have q2 := allO_len n c.2 g (hc c (List.mem_cons_self ..))
              have q3 := size_len c.1
              simp only [caseW, bulkC, List.length_append, List.length_singleton]
              cases b <;> simp <;> omega
          have h1 := dressL_len h p.tx.data.toList
          have h2 := hcw false (decide (p.k ≠ 4)) p.cs hc
          have h3 := wordB_len p.k
          have hi := itoa_off hp
          have t1 := size_len p.tx
          have t2 := size_len p.nm
          have t3 := size_len p.ty
          have t4 := size_len p.st
          have ho := offW_len
          unfold partW
          generalize caseW (fun m => writeF n m (decide (p.k ≠ 4))) false p.cs = X at *
          generalize (wordB p.k).data.toList = wd at *
          generalize Lib.itoa p.off = it at *
          split
          · omega
          · split
            · simp; omega
            · split
              · simp only [List.length_append, List.length_singleton]
                split <;> split <;> simp <;> omega
              · split
                · simp only [List.length_append, List.length_singleton]
                  split <;> simp <;> omega
                · simp
        simp only [writeL, bulkL, List.length_append]
        omega
    exact key l ho
end Go.Proofs.YtmfoiceofhcicaaGreatDoor

namespace Go.Proofs.YtmfoiceofhcicaaGreatDoor
open Go.RowKit

theorem emp'' (s : ByteArray) : s.toList.isEmpty = noB s := by
  unfold noB
  by_cases h : s.size = 0
  · rw [empty_iff.2 h, decide_eq_true h]
  · rw [not_empty h, decide_eq_false h]
theorem toArr_size (l : List UInt8) : (⟨l.toArray⟩ : ByteArray).size = l.length := by show l.toArray.size = _; simp
theorem bw_string {b : Nat} {acc : List UInt8} {w : World} (s : ByteArray) (h : Bld b acc w) (hlen : acc.length + s.size ≤ 140737488355328) :
    Calls Tryz.prog 84 #[.pointer (some ⟨b, 0, none⟩), .string s] w fun e w' => e = .returned (.tuple #[.int .i64 s.size, .nilIface]) ∧ Bld b (acc ++ s.data.toList) w' ∧ BK2 b w w' :=
  (bld_string s h hlen).mono fun _ _ ⟨h1, h2, h3, h4⟩ => ⟨h1, h2, h3, h4⟩
theorem bw_byte {b : Nat} {acc : List UInt8} {w : World} (c : Int) (h0 : 0 ≤ c) (h1 : c < 256) (h : Bld b acc w) (hlen : acc.length + 1 ≤ 140737488355328) :
    Calls Tryz.prog 86 #[.pointer (some ⟨b, 0, none⟩), .int .u8 c] w fun e w' => e = .returned .nilIface ∧ Bld b (acc ++ [c.toNat.toUInt8]) w' ∧ BK2 b w w' :=
  (bld_byte c h0 h1 h hlen).mono fun _ _ ⟨h1, h2, h3, h4⟩ => ⟨h1, h2, h3, h4⟩
theorem add_run (a b : ByteArray) (h : a.size + b.size ≤ 9000000000) : ∃ c : ByteArray, c.size = a.size + b.size ∧ c.data.toList = a.data.toList ++ b.data.toList ∧ ∀ W, (Op.stringOp .add a b).run Tryz.prog W = .ok (.string c) W :=
  ⟨a ++ b, ByteArray.size_append, by simp, fun W => run_string_add_sum W _ _ (by omega)⟩
theorem caseW_append (V : List PT → List UInt8) : ∀ (b : Bool) (x y : List CT), caseW V b (x ++ y) = caseW V b x ++ caseW V (b || !x.isEmpty) y
  | b, [], y => by simp [caseW]
  | b, c :: x, y => by simp [caseW, caseW_append V true x y]
theorem caseW_snoc (V : List PT → List UInt8) (cs : List CT) (j : Nat) (c : CT) (h : cs[j]? = some c) :
    caseW V false (cs.take (j + 1)) = caseW V false (cs.take j) ++ (if j = 0 then [] else [32]) ++ c.1.data.toList ++ [123] ++ V c.2 ++ [125] := by
  rw [take_snoc' h, caseW_append]
  have hj := (List.getElem?_eq_some_iff.1 h).1
  by_cases h0 : j = 0
  · subst h0; simp [caseW]
  · have : (cs.take j).isEmpty = false := by cases cs with | nil => simp at hj | cons x xs => cases j with | zero => exact absurd rfl h0 | succ j => rfl
    rw [this, if_neg h0]; simp [caseW]
theorem bulkL_append (K : List PT → Nat) : ∀ (a b : List PT), bulkL K (a ++ b) = bulkL K a + bulkL K b
  | [], b => by simp [bulkL]
  | p :: a, b => by simp only [List.cons_append, bulkL, bulkL_append K a b]; omega
theorem bulkC_append (K : List PT → Nat) : ∀ (a b : List CT), bulkC K (a ++ b) = bulkC K a + bulkC K b
  | [], b => by simp [bulkC]
  | p :: a, b => by simp only [List.cons_append, bulkC, bulkC_append K a b]; omega
theorem caseW_lenO (n : Nat) (g : Bool) : ∀ (b : Bool) (cs : List CT), (∀ c ∈ cs, allO offOK n c.2) → (caseW (fun m => writeF n m g) b cs).length ≤ 100 * bulkC (bulkF n) cs
  | _, [], _ => by simp [caseW]
  | b, c :: cs, hc => by
    have q1 := caseW_lenO n g true cs (fun d hd => hc d (List.mem_cons_of_mem _ hd))
    have q2 := allO_len n c.2 g (hc c (List.mem_cons_self ..))
    have q3 := size_len c.1
    simp only [caseW, bulkC, List.length_append, List.length_singleton]
    cases b <;> simp <;> omega
theorem caseW_take_len (n : Nat) (g : Bool) (cs : List CT) (j : Nat) (c : CT) (h : cs[j]? = some c) (ho : ∀ c ∈ cs, allO offOK n c.2) :
    (caseW (fun m => writeF n m g) false (cs.take j)).length + 100 * (1 + c.1.size + bulkF n c.2) ≤ 100 * bulkC (bulkF n) cs := by
  have h1 := caseW_lenO n g false (cs.take j) (fun d hd => ho d (List.mem_of_mem_take hd))
  have h2 : bulkC (bulkF n) cs = bulkC (bulkF n) (cs.take j) + bulkC (bulkF n) (cs.drop j) := by rw [← bulkC_append, List.take_append_drop]
  have h3 := bulkC_at (bulkF n) (cs.drop j) 0 c (by simpa using h)
  omega
theorem idx_word0 (W : World) (a b c : Value) : (Instr.index 151 (.agg #[a, b, c]) (.int .i64 0)).run Tryz.prog W = .ok a W := by
  simp [Instr.index, go_sem]
theorem idx_word1 (W : World) (a b c : Value) : (Instr.index 151 (.agg #[a, b, c]) (.int .i64 1)).run Tryz.prog W = .ok b W := by
  simp [Instr.index, go_sem]
theorem idx_word2 (W : World) (a b c : Value) : (Instr.index 151 (.agg #[a, b, c]) (.int .i64 2)).run Tryz.prog W = .ok c W := by
  simp [Instr.index, go_sem]
theorem case_cells {w : World} {b : Nat} {k : ByteArray} {v : Value} (h : Blk w b 70 #[.string k, v]) :
    w.cell? ⟨b, 0, none⟩ = some (.string k) ∧ w.cell? ⟨b, 1, none⟩ = some v ∧ ∀ i, w.frozen? ⟨b, i, none⟩ = false :=
  ⟨h.cell_eq rfl, h.cell_eq rfl, h.frozen⟩
set_option maxRecDepth 100000 in
set_option maxHeartbeats 8000000 in
/-- write. -/
theorem write_step (n : Nat) (hW : WriteC n) : WriteC (n + 1) := by
  intro l h S v b acc B w hE hBb hh hS hB ho hb hacc
  obtain ⟨A, cap, rfl, _, _⟩ := lies_open hh
  have HL := Lib.hid hh
  have HIH := Lib.hid hW
  have HE := Lib.hid hE
  have HS := Lib.hid hS
  have HB := Lib.hid hB
  have HO := Lib.hid ho
  have hbL : bulkL (bulkF n) l ≤ 1000000000 := hb
  have hll : l.length ≤ 1000000000 := by have := bulkL_len (bulkF n) l; omega
  have hwl := allO_len (n + 1) l h ho
  have hbf : bulkF (n + 1) l = bulkL (bulkF n) l := rfl
  have hlb := hB.lt
  obtain ⟨out, hout⟩ : ∃ out, writeF (n + 1) l h = out := ⟨_, rfl⟩
  have HOUT : Hid (writeL (writeF n) h l = out) := hout
  rw [hout] at hwl ⊢
  clear hh hE hS hB ho hb hout hW
  go_enter Tryz.func55, Tryz.ntmps55
  go_wp2
  go_loopw [13] (fun i wr => ∃ k : Nat, k ≤ l.length ∧ i = .int .i64 k ∧ Bld b (acc ++ writeL (writeF n) h (l.take k)) wr ∧ BK2 b w wr) (fun i _ => l.length - (intOf i).toNat)
  case atStart => exact ⟨0, Nat.zero_le _, rfl, by simpa [writeL] using HB.out, BK2.refl _ _⟩
  case round =>
    obtain ⟨k, hk, rfl, hB, hK⟩ := hrel
    have HBr := Lib.hid hB
    have HK := Lib.hid hK
    clear hB hK
    by_cases hlt : k < l.length
    · obtain ⟨p, hp⟩ : ∃ p, l[k]? = some p := ⟨_, List.getElem?_eq_getElem hlt⟩
      obtain ⟨A2, cap2, he, _, hat⟩ := lies_open (HL.out.below HK.out.below HS.out)
      injection he with he1 he2 he3
      subst he1; subst he3
      obtain ⟨b1, o1, cv, rfl, hb1, hP, hC⟩ := hat k p hp
      obtain ⟨a0, a1, a2, a3, a4, a5, a6⟩ := hP
      obtain ⟨Ac, cc, rfl⟩ := hC.formL
      have hpm : p ∈ l := List.mem_of_getElem? hp
      have hop := (HO.out p hpm).1
      have HOC := Lib.hid (HO.out p hpm).2
      have hbk := bulkL_at (bulkF n) l k p hp
      have hwt : writeL (writeF n) h (l.take (k + 1)) = writeL (writeF n) h (l.take k) ++ partW (writeF n) h p := by rw [take_snoc' hp, writeL_append]; simp [writeL]
      have hwd : writeL (writeF n) h (l.take (k + 1)) ++ writeL (writeF n) h (l.drop (k + 1)) = out := by rw [← writeL_append, List.take_append_drop]; exact HOUT.out
      have hlen : (writeL (writeF n) h (l.take k)).length + (partW (writeF n) h p).length ≤ 100 * bulkL (bulkF n) l := by
        have := congrArg List.length hwd
        rw [hwt] at this
        simp only [List.length_append] at this
        omega
      have HWT := Lib.hid hwt
      have HCL := Lib.hid hC
      have hcl : p.cs.length ≤ 1000000000 := by have := bulkC_len (bulkF n) p.cs; omega
      have hbr := HBr.out.lt
      have hroom : acc.length + (writeL (writeF n) h (l.take k)).length + 100 * (1 + p.tx.size + p.nm.size + p.ty.size + p.st.size + bulkC (bulkF n) p.cs) ≤ 100000000000 := by
        have h1 := allO_len (n + 1) (l.take k) h (fun q hq => HO.out q (List.mem_of_mem_take hq))
        have h2 : bulkL (bulkF n) l = bulkL (bulkF n) (l.take k) + bulkL (bulkF n) (l.drop k) := by rw [← bulkL_append, List.take_append_drop]
        have h3 := bulkL_at (bulkF n) (l.drop k) 0 p (by simpa using hp)
        have h4 : (writeF (n + 1) (l.take k) h).length = (writeL (writeF n) h (l.take k)).length := rfl
        have h5 : bulkF (n + 1) (l.take k) = bulkL (bulkF n) (l.take k) := rfl
        omega
      have haq : (acc ++ writeL (writeF n) h (l.take k)).length = acc.length + (writeL (writeF n) h (l.take k)).length := List.length_append
      generalize hac : acc ++ writeL (writeF n) h (l.take k) = ac at *
      have hacl : ac.length + (partW (writeF n) h p).length ≤ 100000000000 := by rw [← hac, List.length_append]; omega
      have HAC := Lib.hid hac
      clear hac hat hC hp hpm hwt hwd
      have HB1 := Lib.hid (HBr.out.alloc (.cells #[.int .i64 p.k, .string p.tx, .string p.nm, .string p.ty, .string p.st, .int .i64 p.off, .slice Ac p.cs.length cc] 68))
      have HX1 : Hid (Blk (wr.alloc (.cells #[.int .i64 p.k, .string p.tx, .string p.nm, .string p.ty, .string p.st, .int .i64 p.off, .slice Ac p.cs.length cc] 68)) wr.heap.size 68 (p.cells (.slice Ac p.cs.length cc)).toArray) := Blk.new _ _ _
      have HK1 := Lib.hid (HK.out.alloc (Nat.le_of_lt hbr) (.cells #[.int .i64 p.k, .string p.tx, .string p.nm, .string p.ty, .string p.st, .int .i64 p.off, .slice Ac p.cs.length cc] 68))
      have fin : ∀ W, Bld b (ac ++ partW (writeF n) h p) W → BK2 b w W → Bld b (acc ++ writeL (writeF n) h (l.take (k + 1))) W ∧ BK2 b w W := fun W h1 h2 => ⟨by rw [HWT.out, ← List.append_assoc, HAC.out]; exact h1, h2⟩
      have HFIN := Lib.hid fin
      clear fin
      by_cases hk1 : p.k = 1
      · have hpw : partW (writeF n) h p = dressL h p.tx.data.toList := by unfold partW; rw [if_pos hk1]
        rw [hpw] at hacl HFIN
        have HD := fun W (hW : EnvM B W) => Lib.hid (dress_any p.tx h W hW (by omega))
        have HEW : Hid (∀ W, BK2 b w W → EnvM B W) := fun W hW => HE.out.below (hW.below.mono hBb)
        have hds : (⟨(dressL h p.tx.data.toList).toArray⟩ : ByteArray).size = (dressL h p.tx.data.toList).length := toArr_size _
        rw [hk1] at a0 HB1 HX1 HK1
        clear hpw
        generalize hDD : (⟨(dressL h p.tx.data.toList).toArray⟩ : ByteArray) = D at *
        have hDl : D.data.toList = dressL h p.tx.data.toList := by rw [← hDD]
        have HDL := Lib.hid hDl
        clear hDD hDl
        go_wp2_with (first | (go_at_call 85; refine (HD _ (HEW.out _ HK1.out)).out.mono ?_; rintro e w2 ⟨rfl, hk2⟩; have HB2 := Lib.hid (HB1.out.keep_nil hk2); have HK2 := Lib.hid (HK1.out.keep hk2 (Nat.le_of_lt HB1.out.lt)); clear hk2) | (go_at_call 84; refine (bw_string D HB2.out (by omega)).mono ?_; rintro e w3 ⟨rfl, hB3, hb3⟩; have HB3 := Lib.hid hB3; have HK3 := Lib.hid (HK2.out.trans hb3); clear hB3 hb3))
        go_roundw
        case rel => exact ⟨k + 1, by omega, by go_num, HFIN.out _ (by rw [← HDL.out]; exact HB3.out) HK3.out⟩
        case measure => simp [intOf]; omega
      · have HEW : Hid (∀ W, BK2 b w W → EnvM B W) := fun W hW => HE.out.below (hW.below.mono hBb)
        have k1 : (p.k == 1) = false := by simpa using hk1
        by_cases hk2 : p.k = 2
        · have hpw : partW (writeF n) h p = [35] := by unfold partW; rw [if_neg hk1, if_pos hk2]
          rw [hpw] at hacl HFIN
          rw [hk2] at a0 HB1 HX1 HK1
          clear hpw k1
          have hl1 : ac.length + 1 ≤ 140737488355328 := by simp at hacl; omega
          go_wp2_with (go_at_call 86; refine (bw_byte 35 (by omega) (by omega) HB1.out hl1).mono ?_; rintro e w3 ⟨rfl, hB3, hb3⟩; have HB3 := Lib.hid hB3; have HK3 := Lib.hid (HK1.out.trans hb3); clear hB3 hb3)
          go_roundw
          case rel => exact ⟨k + 1, by omega, by go_num, HFIN.out _ HB3.out HK3.out⟩
          case measure => simp [intOf]; omega
        · have k2 : (p.k == 2) = false := by simpa using hk2
          by_cases hk3 : p.k = 3
          · have hpw : partW (writeF n) h p = [123] ++ p.nm.data.toList ++ (if noB p.ty then [] else [44, 32] ++ p.ty.data.toList) ++ (if noB p.st then [] else [44, 32] ++ p.st.data.toList) ++ [125] := by unfold partW; rw [if_neg hk1, if_neg hk2, if_pos hk3]
            rw [hpw] at hacl HFIN
            rw [hk3] at a0 HB1 HX1 HK1
            rw [← emp'', ← emp''] at hacl HFIN
            clear hpw k1 k2
            have q1 : (⟨#[123]⟩ : ByteArray).size = 1 := rfl
            have q2 : (⟨#[44, 32]⟩ : ByteArray).size = 2 := rfl
            have HA1 : ∀ W, (Op.stringOp .add ⟨#[123]⟩ p.nm).run Tryz.prog W = .ok (.string (⟨#[123]⟩ ++ p.nm)) W := fun W => run_string_add_sum W _ _ (by rw [q1]; omega)
            have HA2 : ∀ W, (Op.stringOp .add ⟨#[44, 32]⟩ p.ty).run Tryz.prog W = .ok (.string (⟨#[44, 32]⟩ ++ p.ty)) W := fun W => run_string_add_sum W _ _ (by rw [q2]; omega)
            have HA3 : ∀ W, (Op.stringOp .add ⟨#[44, 32]⟩ p.st).run Tryz.prog W = .ok (.string (⟨#[44, 32]⟩ ++ p.st)) W := fun W => run_string_add_sum W _ _ (by rw [q2]; omega)
            have z1 : ((⟨#[123]⟩ : ByteArray) ++ p.nm).size ≤ 2000000000 := by rw [ByteArray.size_append, q1]; omega
            have z2 : ((⟨#[44, 32]⟩ : ByteArray) ++ p.ty).size ≤ 2000000000 := by rw [ByteArray.size_append, q2]; omega
            have z3 : ((⟨#[44, 32]⟩ : ByteArray) ++ p.st).size ≤ 2000000000 := by rw [ByteArray.size_append, q2]; omega
            have g1 : ((⟨#[123]⟩ : ByteArray) ++ p.nm).data.toList = [123] ++ p.nm.data.toList := by simp
            have g2 : ((⟨#[44, 32]⟩ : ByteArray) ++ p.ty).data.toList = [44, 32] ++ p.ty.data.toList := by simp
            have g3 : ((⟨#[44, 32]⟩ : ByteArray) ++ p.st).data.toList = [44, 32] ++ p.st.data.toList := by simp
            rw [← g1, ← g2, ← g3] at HFIN
            generalize (⟨#[123]⟩ : ByteArray) ++ p.nm = X1 at *
            generalize (⟨#[44, 32]⟩ : ByteArray) ++ p.ty = X2 at *
            generalize (⟨#[44, 32]⟩ : ByteArray) ++ p.st = X3 at *
            have hac2 : ac.length ≤ 100000000000 := by omega
            clear hacl g1 g2 g3 q1 q2
            have hbx : wr.heap.size ≠ b := by omega
            cases ht : p.ty.toList.isEmpty
            · cases hs : p.st.toList.isEmpty
              · rw [ht, hs] at HFIN
                go_wp2_with (first | (go_at_call_of 84 (Value.string X1); refine (bw_string X1 HB1.out (by first | omega | ((repeat rw [List.length_append]); (repeat rw [size_len]); (repeat rw [List.length_singleton]); omega))).mono ?_; rintro e w3 ⟨rfl, hB, hb⟩; have hx := hb.blk HX1.out (by decide) hbx; obtain ⟨y0, y1, y2, y3, y4, y5, y6, yz⟩ := part_all hx; have HX3 := Lib.hid hx; have HB3 := Lib.hid hB; have HK3 := Lib.hid (HK1.out.trans hb); clear hB hb hx) | (go_at_call_of 84 (Value.string X2); refine (bw_string X2 HB3.out (by first | omega | ((repeat rw [List.length_append]); (repeat rw [size_len]); (repeat rw [List.length_singleton]); omega))).mono ?_; rintro e w4 ⟨rfl, hB, hb⟩; have hx := hb.blk HX3.out (by decide) hbx; obtain ⟨y0, y1, y2, y3, y4, y5, y6, yz⟩ := part_all hx; have HX4 := Lib.hid hx; have HB4 := Lib.hid hB; have HK4 := Lib.hid (HK3.out.trans hb); clear hB hb hx) | (go_at_call_of 84 (Value.string X3); refine (bw_string X3 HB4.out (by first | omega | ((repeat rw [List.length_append]); (repeat rw [size_len]); (repeat rw [List.length_singleton]); omega))).mono ?_; rintro e w5 ⟨rfl, hB, hb⟩; have hx := hb.blk HX4.out (by decide) hbx; obtain ⟨y0, y1, y2, y3, y4, y5, y6, yz⟩ := part_all hx; have HX5 := Lib.hid hx; have HB5 := Lib.hid hB; have HK5 := Lib.hid (HK4.out.trans hb); clear hB hb hx) | (go_at_call_of 86 (Value.int .u8 125); refine (bw_byte 125 (by omega) (by omega) HB5.out (by first | omega | ((repeat rw [List.length_append]); (repeat rw [size_len]); (repeat rw [List.length_singleton]); omega))).mono ?_; rintro e w6 ⟨rfl, hB, hb⟩; have hx := hb.blk HX5.out (by decide) hbx; obtain ⟨y0, y1, y2, y3, y4, y5, y6, yz⟩ := part_all hx; have HX6 := Lib.hid hx; have HB6 := Lib.hid hB; have HK6 := Lib.hid (HK5.out.trans hb); clear hB hb hx))
                go_roundw
                case rel => exact ⟨k + 1, by omega, by go_num, HFIN.out _ (by simpa using HB6.out) HK6.out⟩
                case measure => simp [intOf]; omega
              · rw [ht, hs] at HFIN
                go_wp2_with (first | (go_at_call_of 84 (Value.string X1); refine (bw_string X1 HB1.out (by first | omega | ((repeat rw [List.length_append]); (repeat rw [size_len]); (repeat rw [List.length_singleton]); omega))).mono ?_; rintro e w3 ⟨rfl, hB, hb⟩; have hx := hb.blk HX1.out (by decide) hbx; obtain ⟨y0, y1, y2, y3, y4, y5, y6, yz⟩ := part_all hx; have HX3 := Lib.hid hx; have HB3 := Lib.hid hB; have HK3 := Lib.hid (HK1.out.trans hb); clear hB hb hx) | (go_at_call_of 84 (Value.string X2); refine (bw_string X2 HB3.out (by first | omega | ((repeat rw [List.length_append]); (repeat rw [size_len]); (repeat rw [List.length_singleton]); omega))).mono ?_; rintro e w4 ⟨rfl, hB, hb⟩; have hx := hb.blk HX3.out (by decide) hbx; obtain ⟨y0, y1, y2, y3, y4, y5, y6, yz⟩ := part_all hx; have HX4 := Lib.hid hx; have HB4 := Lib.hid hB; have HK4 := Lib.hid (HK3.out.trans hb); clear hB hb hx) | (go_at_call_of 86 (Value.int .u8 125); refine (bw_byte 125 (by omega) (by omega) HB4.out (by first | omega | ((repeat rw [List.length_append]); (repeat rw [size_len]); (repeat rw [List.length_singleton]); omega))).mono ?_; rintro e w6 ⟨rfl, hB, hb⟩; have hx := hb.blk HX4.out (by decide) hbx; obtain ⟨y0, y1, y2, y3, y4, y5, y6, yz⟩ := part_all hx; have HX6 := Lib.hid hx; have HB6 := Lib.hid hB; have HK6 := Lib.hid (HK4.out.trans hb); clear hB hb hx))
                go_roundw
                case rel => exact ⟨k + 1, by omega, by go_num, HFIN.out _ (by simpa using HB6.out) HK6.out⟩
                case measure => simp [intOf]; omega
            · cases hs : p.st.toList.isEmpty
              · rw [ht, hs] at HFIN
                go_wp2_with (first | (go_at_call_of 84 (Value.string X1); refine (bw_string X1 HB1.out (by first | omega | ((repeat rw [List.length_append]); (repeat rw [size_len]); (repeat rw [List.length_singleton]); omega))).mono ?_; rintro e w3 ⟨rfl, hB, hb⟩; have hx := hb.blk HX1.out (by decide) hbx; obtain ⟨y0, y1, y2, y3, y4, y5, y6, yz⟩ := part_all hx; have HX3 := Lib.hid hx; have HB3 := Lib.hid hB; have HK3 := Lib.hid (HK1.out.trans hb); clear hB hb hx) | (go_at_call_of 84 (Value.string X3); refine (bw_string X3 HB3.out (by first | omega | ((repeat rw [List.length_append]); (repeat rw [size_len]); (repeat rw [List.length_singleton]); omega))).mono ?_; rintro e w5 ⟨rfl, hB, hb⟩; have hx := hb.blk HX3.out (by decide) hbx; obtain ⟨y0, y1, y2, y3, y4, y5, y6, yz⟩ := part_all hx; have HX5 := Lib.hid hx; have HB5 := Lib.hid hB; have HK5 := Lib.hid (HK3.out.trans hb); clear hB hb hx) | (go_at_call_of 86 (Value.int .u8 125); refine (bw_byte 125 (by omega) (by omega) HB5.out (by first | omega | ((repeat rw [List.length_append]); (repeat rw [size_len]); (repeat rw [List.length_singleton]); omega))).mono ?_; rintro e w6 ⟨rfl, hB, hb⟩; have hx := hb.blk HX5.out (by decide) hbx; obtain ⟨y0, y1, y2, y3, y4, y5, y6, yz⟩ := part_all hx; have HX6 := Lib.hid hx; have HB6 := Lib.hid hB; have HK6 := Lib.hid (HK5.out.trans hb); clear hB hb hx))
                go_roundw
                case rel => exact ⟨k + 1, by omega, by go_num, HFIN.out _ (by simpa using HB6.out) HK6.out⟩
                case measure => simp [intOf]; omega
              · rw [ht, hs] at HFIN
                go_wp2_with (first | (go_at_call_of 84 (Value.string X1); refine (bw_string X1 HB1.out (by first | omega | ((repeat rw [List.length_append]); (repeat rw [size_len]); (repeat rw [List.length_singleton]); omega))).mono ?_; rintro e w3 ⟨rfl, hB, hb⟩; have hx := hb.blk HX1.out (by decide) hbx; obtain ⟨y0, y1, y2, y3, y4, y5, y6, yz⟩ := part_all hx; have HX3 := Lib.hid hx; have HB3 := Lib.hid hB; have HK3 := Lib.hid (HK1.out.trans hb); clear hB hb hx) | (go_at_call_of 86 (Value.int .u8 125); refine (bw_byte 125 (by omega) (by omega) HB3.out (by first | omega | ((repeat rw [List.length_append]); (repeat rw [size_len]); (repeat rw [List.length_singleton]); omega))).mono ?_; rintro e w6 ⟨rfl, hB, hb⟩; have hx := hb.blk HX3.out (by decide) hbx; obtain ⟨y0, y1, y2, y3, y4, y5, y6, yz⟩ := part_all hx; have HX6 := Lib.hid hx; have HB6 := Lib.hid hB; have HK6 := Lib.hid (HK3.out.trans hb); clear hB hb hx))
                go_roundw
                case rel => exact ⟨k + 1, by omega, by go_num, HFIN.out _ (by simpa using HB6.out) HK6.out⟩
                case measure => simp [intOf]; omega
          · have k3 : (p.k == 3) = false := by simpa using hk3
            by_cases hk4 : p.k = 4 ∨ p.k = 5 ∨ p.k = 6
            · have hpw : partW (writeF n) h p = [123] ++ p.nm.data.toList ++ [44, 32] ++ (wordB p.k).data.toList ++ [44, 32] ++ (if p.off = 0 then [] else offW ++ Lib.itoa p.off ++ [32]) ++ caseW (fun m => writeF n m (decide (p.k ≠ 4))) false p.cs ++ [125] := by unfold partW; rw [if_neg hk1, if_neg hk2, if_neg hk3, if_pos hk4]
              rw [hpw] at hacl HFIN
              have q1 : (⟨#[123]⟩ : ByteArray).size = 1 := rfl
              have q2 : (⟨#[44, 32]⟩ : ByteArray).size = 2 := rfl
              have hbx : wr.heap.size ≠ b := by omega
              have hwl2 := wordB_len p.k
              have hac2 : ac.length ≤ 100000000000 := by omega
              clear hpw k1 k2 k3 hk1 hk2 hk3 hacl hlen hwl2
              have hrm : ac.length + 100 * (1 + p.tx.size + p.nm.size + p.ty.size + p.st.size + bulkC (bulkF n) p.cs) ≤ 100000000000 := by omega
              clear hroom haq
              have HKW := HK
              have HK1 : Hid (BK2 b wr (wr.alloc (.cells #[.int .i64 p.k, .string p.tx, .string p.nm, .string p.ty, .string p.st, .int .i64 p.off, .slice Ac p.cs.length cc] 68))) := (BK2.refl b wr).alloc (Nat.le_of_lt hbr) _
              have HLL := fun W (hW : BK2 b w W) => HL.out.below hW.below HS.out
              rcases hk4 with hk4 | hk4 | hk4
              · rw [hk4] at HFIN a0 HB1 HX1 HK1
                have hg : decide ((4 : Int) ≠ 4) = false := rfl
                rw [hg] at HFIN
                have qw : (⟨#[115, 101, 108, 101, 99, 116]⟩ : ByteArray).size = 6 := rfl
                obtain ⟨X1, z1, g1, HA1⟩ := add_run ⟨#[123]⟩ p.nm (by rw [q1]; omega)
                obtain ⟨X2, z2, g2, HA2⟩ := add_run X1 ⟨#[44, 32]⟩ (by rw [q2]; omega)
                obtain ⟨X3, z3, g3, HA3⟩ := add_run X2 ⟨#[115, 101, 108, 101, 99, 116]⟩ (by rw [qw]; omega)
                obtain ⟨X4, z4, g4, HA4⟩ := add_run X3 ⟨#[44, 32]⟩ (by rw [q2]; omega)
                have g5 : X4.data.toList = [123] ++ p.nm.data.toList ++ [44, 32] ++ (wordB 4).data.toList ++ [44, 32] := by rw [g4, g3, g2, g1]; rfl
                rw [← g5] at HFIN
                have HIW := fun W => idx_word0 W (.string ⟨#[115, 101, 108, 101, 99, 116]⟩) (.string ⟨#[112, 108, 117, 114, 97, 108]⟩) (.string ⟨#[115, 101, 108, 101, 99, 116, 111, 114, 100, 105, 110, 97, 108]⟩)
                have hk1' : ∀ m : Int, m ≠ 4 → (p.k == m) = false := fun m hm => by rw [hk4]; simpa using fun h => hm h.symm
                clear g1 g2 g3 g4 g5 hg hk1'
                by_cases ho0 : p.off = 0
                · rw [if_pos ho0] at HFIN
                  rw [ho0] at a5 HB1 HX1 HK1
                  go_wp2_with ((go_at_call_of 84 (Value.string X4); refine (bw_string X4 HB1.out (by first | omega | ((repeat rw [List.length_append]); (repeat rw [size_len]); (repeat rw [List.length_singleton]); omega))).mono ?_; rintro e w3 ⟨rfl, hB, hb⟩; have hx := hb.blk HX1.out (by decide) hbx; obtain ⟨y0, y1, y2, y3, y4, y5, y6, yz⟩ := part_all hx; rw [hk4] at y0; rw [ho0] at y5; have HX3 := Lib.hid hx; have HB3 := Lib.hid hB; have HK3 := Lib.hid (HK1.out.trans hb); clear hB hb hx))
                  have hadl : (ac ++ X4.data.toList).length ≤ ac.length + 100 * (1 + p.nm.size) := by simp only [List.length_append, size_len]; omega
                  generalize had : ac ++ X4.data.toList = ad at *
                  have HAD := Lib.hid had; clear had
                  go_loopw [87] (fun i wx => ∃ j : Nat, j ≤ p.cs.length ∧ i = .int .i64 j ∧ Bld b (ad ++ caseW (fun m => writeF n m false) false (p.cs.take j)) wx ∧ BK2 b wr wx ∧ Blk wx wr.heap.size 68 (p.cells (.slice Ac p.cs.length cc)).toArray) (fun i _ => p.cs.length - (intOf i).toNat)
                  case atStart => exact ⟨0, Nat.zero_le _, rfl, by simpa [caseW] using HB3.out, HK3.out, HX3.out⟩
                  case round =>
                    obtain ⟨j, hj, rfl, hB, hK, hX⟩ := hrel
                    obtain ⟨y0, y1, y2, y3, y4, y5, y6, yz⟩ := part_all hX
                    rw [hk4] at y0
                    by_cases hlt2 : j < p.cs.length
                    · obtain ⟨c, hc⟩ : ∃ c, p.cs[j]? = some c := ⟨_, List.getElem?_eq_getElem hlt2⟩
                      obtain ⟨A3, cap3, he, _, hcat⟩ := liesC_open (HCL.out.below hK.below HS.out)
                      injection he with he1 he2 he3
                      subst he1; subst he3
                      obtain ⟨b2, o2, pv, rfl, hb2, e1, e2, hL⟩ := hcat j c hc
                      obtain ⟨Ap, mp, kp, rfl⟩ := hL.form
                      have hsn := caseW_snoc (fun m => writeF n m false) p.cs j c hc
                      have HSN := Lib.hid hsn
                      have hoc := HOC.out c (List.mem_of_getElem? hc)
                      have hcl3 := caseW_take_len n false p.cs j c hc HOC.out
                      have hwc := allO_len n c.2 false hoc
                      have hbL2 := hB.lt
                      have hbc : wr.heap.size ≠ b := by omega
                      generalize hcj : caseW (fun m => writeF n m false) false (p.cs.take j) = cj at *
                      have hk6 : BK2 b wr (wr.alloc (.cells #[.string c.1, .slice Ap mp kp] 70)) := (BK2.refl b wr).alloc (by omega) _
                      have HB7 := Lib.hid (hB.alloc (.cells #[.string c.1, .slice Ap mp kp] 70))
                      have HX7 := Lib.hid (hk6.blk hX (by decide) hbx)
                      have HC7 : Hid (Blk (wr.alloc (.cells #[.string c.1, .slice Ap mp kp] 70)) wr.heap.size 70 #[.string c.1, .slice Ap mp kp]) := Blk.new _ _ _
                      have HK7 := Lib.hid hk6
                      have HKR := Lib.hid hK
                      have HLW := Lib.hid hL
                      have HLC : ∀ W, BK2 b wr W → Lies n S W (.slice Ap mp kp) c.2 := fun W hW => hL.below hW.below HS.out
                      obtain ⟨K1, zk, gk, HAK⟩ := add_run c.1 ⟨#[123]⟩ (by rw [q1]; omega)
                      have GK := Lib.hid gk
                      clear hcat hsn hB hK hX hL hk6 gk hc hcj
                      by_cases hj0 : j = 0
                      · have hj1 : ¬ ((0 : Int) < (j : Int)) := by omega
                        have HJ := Lib.hid hj0
                        clear hj0
                        go_wp2_with (first | (go_at_call_of 84 (Value.string K1); refine (bw_string K1 HB7.out (by first | omega | ((repeat rw [List.length_append]); (repeat rw [size_len]); (repeat rw [List.length_singleton]); omega))).mono ?_; rintro e w9 ⟨rfl, hB, hb⟩; have hx := hb.blk HX7.out (by decide) hbx; obtain ⟨y0, y1, y2, y3, y4, y5, y6, yz⟩ := part_all hx; rw [hk4] at y0; have HX9 := Lib.hid hx; have HB9 := Lib.hid hB; have HK9 := Lib.hid (HK7.out.trans hb); have hq := hb.blk HC7.out (by decide) hbc; obtain ⟨x0, x1, xz⟩ := case_cells hq; have HC9 := Lib.hid hq; clear hq; clear hB hb hx) | (go_at_call 55; refine (HIH.out c.2 false S _ b _ B _ (HEW.out _ (HKW.out.trans (HKR.out.trans HK9.out))) hBb (HLC _ HK9.out) HS.out HB9.out hoc (by omega) (by first | omega | ((repeat rw [List.length_append]); (repeat rw [size_len]); (repeat rw [List.length_singleton]); omega))).mono ?_; rintro e wA ⟨rfl, hB, hb⟩; have hx := hb.blk HX9.out (by decide) hbx; obtain ⟨y0, y1, y2, y3, y4, y5, y6, yz⟩ := part_all hx; rw [hk4] at y0; have HXA := Lib.hid hx; have HBA := Lib.hid hB; have HKA := Lib.hid (HK9.out.trans hb); have hq := hb.blk HC9.out (by decide) hbc; obtain ⟨x0, x1, xz⟩ := case_cells hq; have HCA := Lib.hid hq; clear hq; clear hB hb hx) | (go_at_call_of 86 (Value.int .u8 125); refine (bw_byte 125 (by omega) (by omega) HBA.out (by first | omega | ((repeat rw [List.length_append]); (repeat rw [size_len]); (repeat rw [List.length_singleton]); omega))).mono ?_; rintro e wB ⟨rfl, hB, hb⟩; have hx := hb.blk HXA.out (by decide) hbx; obtain ⟨y0, y1, y2, y3, y4, y5, y6, yz⟩ := part_all hx; rw [hk4] at y0; have HXB := Lib.hid hx; have HBB := Lib.hid hB; have HKB := Lib.hid (HKA.out.trans hb); have hq := hb.blk HCA.out (by decide) hbc; obtain ⟨x0, x1, xz⟩ := case_cells hq; have HCB := Lib.hid hq; clear hq; clear hB hb hx))
                        go_roundw
                        case rel => exact ⟨j + 1, by omega, by go_num, by have hs := HSN.out; have gk := GK.out; rw [if_pos HJ.out] at hs; rw [hs]; have hz := HBB.out; rw [gk] at hz; simpa using hz, HKR.out.trans HKB.out, HXB.out⟩
                        case measure => simp [intOf]; omega
                      · have hj1 : (0 : Int) < (j : Int) := by omega
                        have HJ := Lib.hid hj0
                        clear hj0
                        go_wp2_with (first | (go_at_call_of 86 (Value.int .u8 32); refine (bw_byte 32 (by omega) (by omega) HB7.out (by first | omega | ((repeat rw [List.length_append]); (repeat rw [size_len]); (repeat rw [List.length_singleton]); omega))).mono ?_; rintro e w8 ⟨rfl, hB, hb⟩; have hx := hb.blk HX7.out (by decide) hbx; obtain ⟨y0, y1, y2, y3, y4, y5, y6, yz⟩ := part_all hx; rw [hk4] at y0; have HX8 := Lib.hid hx; have HB8 := Lib.hid hB; have HK8 := Lib.hid (HK7.out.trans hb); have hq := hb.blk HC7.out (by decide) hbc; obtain ⟨x0, x1, xz⟩ := case_cells hq; have HC8 := Lib.hid hq; clear hq; clear hB hb hx) | (go_at_call_of 84 (Value.string K1); refine (bw_string K1 HB8.out (by first | omega | ((repeat rw [List.length_append]); (repeat rw [size_len]); (repeat rw [List.length_singleton]); omega))).mono ?_; rintro e w9 ⟨rfl, hB, hb⟩; have hx := hb.blk HX8.out (by decide) hbx; obtain ⟨y0, y1, y2, y3, y4, y5, y6, yz⟩ := part_all hx; rw [hk4] at y0; have HX9 := Lib.hid hx; have HB9 := Lib.hid hB; have HK9 := Lib.hid (HK8.out.trans hb); have hq := hb.blk HC8.out (by decide) hbc; obtain ⟨x0, x1, xz⟩ := case_cells hq; have HC9 := Lib.hid hq; clear hq; clear hB hb hx) | (go_at_call 55; refine (HIH.out c.2 false S _ b _ B _ (HEW.out _ (HKW.out.trans (HKR.out.trans HK9.out))) hBb (HLC _ HK9.out) HS.out HB9.out hoc (by omega) (by first | omega | ((repeat rw [List.length_append]); (repeat rw [size_len]); (repeat rw [List.length_singleton]); omega))).mono ?_; rintro e wA ⟨rfl, hB, hb⟩; have hx := hb.blk HX9.out (by decide) hbx; obtain ⟨y0, y1, y2, y3, y4, y5, y6, yz⟩ := part_all hx; rw [hk4] at y0; have HXA := Lib.hid hx; have HBA := Lib.hid hB; have HKA := Lib.hid (HK9.out.trans hb); have hq := hb.blk HC9.out (by decide) hbc; obtain ⟨x0, x1, xz⟩ := case_cells hq; have HCA := Lib.hid hq; clear hq; clear hB hb hx) | (go_at_call_of 86 (Value.int .u8 125); refine (bw_byte 125 (by omega) (by omega) HBA.out (by first | omega | ((repeat rw [List.length_append]); (repeat rw [size_len]); (repeat rw [List.length_singleton]); omega))).mono ?_; rintro e wB ⟨rfl, hB, hb⟩; have hx := hb.blk HXA.out (by decide) hbx; obtain ⟨y0, y1, y2, y3, y4, y5, y6, yz⟩ := part_all hx; rw [hk4] at y0; have HXB := Lib.hid hx; have HBB := Lib.hid hB; have HKB := Lib.hid (HKA.out.trans hb); have hq := hb.blk HCA.out (by decide) hbc; obtain ⟨x0, x1, xz⟩ := case_cells hq; have HCB := Lib.hid hq; clear hq; clear hB hb hx))
                        go_roundw
                        case rel => exact ⟨j + 1, by omega, by go_num, by have hs := HSN.out; have gk := GK.out; rw [if_neg HJ.out] at hs; rw [hs]; have hz := HBB.out; rw [gk] at hz; simpa using hz, HKR.out.trans HKB.out, HXB.out⟩
                        case measure => simp [intOf]; omega
                    · obtain rfl : j = p.cs.length := by omega
                      rw [List.take_length] at hB
                      have HB7 := Lib.hid hB
                      have HX7 := Lib.hid hX
                      have HK7 := Lib.hid (BK2.refl b wr)
                      have HKR := Lib.hid hK
                      have hcl4 := caseW_lenO n false false p.cs HOC.out
                      clear hB hX hK
                      go_wp2_with ((go_at_call_of 86 (Value.int .u8 125); refine (bw_byte 125 (by omega) (by omega) HB7.out (by first | omega | ((repeat rw [List.length_append]); (repeat rw [size_len]); (repeat rw [List.length_singleton]); omega))).mono ?_; rintro e w8 ⟨rfl, hB, hb⟩; have hx := hb.blk HX7.out (by decide) hbx; obtain ⟨y0, y1, y2, y3, y4, y5, y6, yz⟩ := part_all hx; rw [hk4] at y0; have HX8 := Lib.hid hx; have HB8 := Lib.hid hB; have HK8 := Lib.hid (HK7.out.trans hb); clear hB hb hx))
                      go_roundw
                      case rel => exact ⟨k + 1, by omega, by go_num, HFIN.out _ (by have hz := HB8.out; rw [← HAD.out] at hz; simpa using hz) (HKW.out.trans (HKR.out.trans HK8.out))⟩
                      case measure => simp [intOf]; omega
                · rw [if_neg ho0] at HFIN
                  have HIT : Hid (∀ W, EnvM B W → Calls Tryz.prog 87 #[.int .i64 p.off] W fun e w' => e = .returned (.string ⟨(Lib.itoa p.off).toArray⟩) ∧ ∃ k os, w' = Go.Sort.grow (W.drewN k) os) := fun W hW => Tryz.strconv_Itoa p.off (by have := hop.1; omega) (by have := hop.2; omega) W hW.vars.pow
                  have hi1 : (⟨(Lib.itoa p.off).toArray⟩ : ByteArray).size ≤ 21 := by have := itoa_off hop; rw [toArr_size]; exact this
                  have hi2 : (⟨(Lib.itoa p.off).toArray⟩ : ByteArray).data.toList = Lib.itoa p.off := by simp
                  generalize (⟨(Lib.itoa p.off).toArray⟩ : ByteArray) = I1 at *
                  have qo : (⟨#[111, 102, 102, 115, 101, 116, 58]⟩ : ByteArray).size = 7 := rfl
                  have q3 : (⟨#[32]⟩ : ByteArray).size = 1 := rfl
                  obtain ⟨Y1, zy1, gy1, HY1⟩ := add_run ⟨#[111, 102, 102, 115, 101, 116, 58]⟩ I1 (by rw [qo]; omega)
                  obtain ⟨Y2, zy2, gy2, HY2⟩ := add_run Y1 ⟨#[32]⟩ (by rw [q3]; omega)
                  have gy : Y2.data.toList = offW ++ Lib.itoa p.off ++ [32] := by rw [gy2, gy1, hi2]; rfl
                  rw [← gy] at HFIN
                  have ho1 : (p.off == 0) = false := by simpa using ho0
                  clear gy1 gy2 gy hi2
                  go_wp2_with (first | (go_at_call_of 84 (Value.string X4); refine (bw_string X4 HB1.out (by first | omega | ((repeat rw [List.length_append]); (repeat rw [size_len]); (repeat rw [List.length_singleton]); omega))).mono ?_; rintro e w3 ⟨rfl, hB, hb⟩; have hx := hb.blk HX1.out (by decide) hbx; obtain ⟨y0, y1, y2, y3, y4, y5, y6, yz⟩ := part_all hx; rw [hk4] at y0; have HX3 := Lib.hid hx; have HB3 := Lib.hid hB; have HK3 := Lib.hid (HK1.out.trans hb); clear hB hb hx) | (go_at_call 87; refine (HIT.out _ (HEW.out _ (HKW.out.trans HK3.out))).mono ?_; rintro e w4 ⟨rfl, ki, osi, hw4⟩; have hki : Keep [] w3 w4 := (by rw [hw4]; exact Keep.of_below (below_itoa w3 ki osi)); have hx := HX3.out.keep hki (by simp); obtain ⟨y0, y1, y2, y3, y4, y5, y6, yz⟩ := part_all hx; rw [hk4] at y0; have HX4 := Lib.hid hx; have HB4 := Lib.hid (HB3.out.keep_nil hki); have HK4 := Lib.hid (HK3.out.keep hki (Nat.le_of_lt HB3.out.lt)); clear hw4 hki hx) | (go_at_call_of 84 (Value.string Y2); refine (bw_string Y2 HB4.out (by first | omega | ((repeat rw [List.length_append]); (repeat rw [size_len]); (repeat rw [List.length_singleton]); omega))).mono ?_; rintro e w5 ⟨rfl, hB, hb⟩; have hx := hb.blk HX4.out (by decide) hbx; obtain ⟨y0, y1, y2, y3, y4, y5, y6, yz⟩ := part_all hx; rw [hk4] at y0; have HX5 := Lib.hid hx; have HB5 := Lib.hid hB; have HK5 := Lib.hid (HK4.out.trans hb); clear hB hb hx))
                  have hadl : (ac ++ X4.data.toList ++ Y2.data.toList).length ≤ ac.length + 100 * (1 + p.nm.size) := by simp only [List.length_append, size_len]; omega
                  generalize had : ac ++ X4.data.toList ++ Y2.data.toList = ad at *
                  have HAD := Lib.hid had; clear had
                  go_loopw [87] (fun i wx => ∃ j : Nat, j ≤ p.cs.length ∧ i = .int .i64 j ∧ Bld b (ad ++ caseW (fun m => writeF n m false) false (p.cs.take j)) wx ∧ BK2 b wr wx ∧ Blk wx wr.heap.size 68 (p.cells (.slice Ac p.cs.length cc)).toArray) (fun i _ => p.cs.length - (intOf i).toNat)
                  case atStart => exact ⟨0, Nat.zero_le _, rfl, by simpa [caseW] using HB5.out, HK5.out, HX5.out⟩
                  case round =>
                    obtain ⟨j, hj, rfl, hB, hK, hX⟩ := hrel
                    obtain ⟨y0, y1, y2, y3, y4, y5, y6, yz⟩ := part_all hX
                    rw [hk4] at y0
                    by_cases hlt2 : j < p.cs.length
                    · obtain ⟨c, hc⟩ : ∃ c, p.cs[j]? = some c := ⟨_, List.getElem?_eq_getElem hlt2⟩
                      obtain ⟨A3, cap3, he, _, hcat⟩ := liesC_open (HCL.out.below hK.below HS.out)
                      injection he with he1 he2 he3
                      subst he1; subst he3
                      obtain ⟨b2, o2, pv, rfl, hb2, e1, e2, hL⟩ := hcat j c hc
                      obtain ⟨Ap, mp, kp, rfl⟩ := hL.form
                      have hsn := caseW_snoc (fun m => writeF n m false) p.cs j c hc
                      have HSN := Lib.hid hsn
                      have hoc := HOC.out c (List.mem_of_getElem? hc)
                      have hcl3 := caseW_take_len n false p.cs j c hc HOC.out
                      have hwc := allO_len n c.2 false hoc
                      have hbL2 := hB.lt
                      have hbc : wr.heap.size ≠ b := by omega
                      generalize hcj : caseW (fun m => writeF n m false) false (p.cs.take j) = cj at *
                      have hk6 : BK2 b wr (wr.alloc (.cells #[.string c.1, .slice Ap mp kp] 70)) := (BK2.refl b wr).alloc (by omega) _
                      have HB7 := Lib.hid (hB.alloc (.cells #[.string c.1, .slice Ap mp kp] 70))
                      have HX7 := Lib.hid (hk6.blk hX (by decide) hbx)
                      have HC7 : Hid (Blk (wr.alloc (.cells #[.string c.1, .slice Ap mp kp] 70)) wr.heap.size 70 #[.string c.1, .slice Ap mp kp]) := Blk.new _ _ _
                      have HK7 := Lib.hid hk6
                      have HKR := Lib.hid hK
                      have HLW := Lib.hid hL
                      have HLC : ∀ W, BK2 b wr W → Lies n S W (.slice Ap mp kp) c.2 := fun W hW => hL.below hW.below HS.out
                      obtain ⟨K1, zk, gk, HAK⟩ := add_run c.1 ⟨#[123]⟩ (by rw [q1]; omega)
                      have GK := Lib.hid gk
                      clear hcat hsn hB hK hX hL hk6 gk hc hcj
                      by_cases hj0 : j = 0
                      · have hj1 : ¬ ((0 : Int) < (j : Int)) := by omega
                        have HJ := Lib.hid hj0
                        clear hj0
                        go_wp2_with (first | (go_at_call_of 84 (Value.string K1); refine (bw_string K1 HB7.out (by first | omega | ((repeat rw [List.length_append]); (repeat rw [size_len]); (repeat rw [List.length_singleton]); omega))).mono ?_; rintro e w9 ⟨rfl, hB, hb⟩; have hx := hb.blk HX7.out (by decide) hbx; obtain ⟨y0, y1, y2, y3, y4, y5, y6, yz⟩ := part_all hx; rw [hk4] at y0; have HX9 := Lib.hid hx; have HB9 := Lib.hid hB; have HK9 := Lib.hid (HK7.out.trans hb); have hq := hb.blk HC7.out (by decide) hbc; obtain ⟨x0, x1, xz⟩ := case_cells hq; have HC9 := Lib.hid hq; clear hq; clear hB hb hx) | (go_at_call 55; refine (HIH.out c.2 false S _ b _ B _ (HEW.out _ (HKW.out.trans (HKR.out.trans HK9.out))) hBb (HLC _ HK9.out) HS.out HB9.out hoc (by omega) (by first | omega | ((repeat rw [List.length_append]); (repeat rw [size_len]); (repeat rw [List.length_singleton]); omega))).mono ?_; rintro e wA ⟨rfl, hB, hb⟩; have hx := hb.blk HX9.out (by decide) hbx; obtain ⟨y0, y1, y2, y3, y4, y5, y6, yz⟩ := part_all hx; rw [hk4] at y0; have HXA := Lib.hid hx; have HBA := Lib.hid hB; have HKA := Lib.hid (HK9.out.trans hb); have hq := hb.blk HC9.out (by decide) hbc; obtain ⟨x0, x1, xz⟩ := case_cells hq; have HCA := Lib.hid hq; clear hq; clear hB hb hx) | (go_at_call_of 86 (Value.int .u8 125); refine (bw_byte 125 (by omega) (by omega) HBA.out (by first | omega | ((repeat rw [List.length_append]); (repeat rw [size_len]); (repeat rw [List.length_singleton]); omega))).mono ?_; rintro e wB ⟨rfl, hB, hb⟩; have hx := hb.blk HXA.out (by decide) hbx; obtain ⟨y0, y1, y2, y3, y4, y5, y6, yz⟩ := part_all hx; rw [hk4] at y0; have HXB := Lib.hid hx; have HBB := Lib.hid hB; have HKB := Lib.hid (HKA.out.trans hb); have hq := hb.blk HCA.out (by decide) hbc; obtain ⟨x0, x1, xz⟩ := case_cells hq; have HCB := Lib.hid hq; clear hq; clear hB hb hx))
                        go_roundw
                        case rel => exact ⟨j + 1, by omega, by go_num, by have hs := HSN.out; have gk := GK.out; rw [if_pos HJ.out] at hs; rw [hs]; have hz := HBB.out; rw [gk] at hz; simpa using hz, HKR.out.trans HKB.out, HXB.out⟩
                        case measure => simp [intOf]; omega
                      · have hj1 : (0 : Int) < (j : Int) := by omega
                        have HJ := Lib.hid hj0
                        clear hj0
                        go_wp2_with (first | (go_at_call_of 86 (Value.int .u8 32); refine (bw_byte 32 (by omega) (by omega) HB7.out (by first | omega | ((repeat rw [List.length_append]); (repeat rw [size_len]); (repeat rw [List.length_singleton]); omega))).mono ?_; rintro e w8 ⟨rfl, hB, hb⟩; have hx := hb.blk HX7.out (by decide) hbx; obtain ⟨y0, y1, y2, y3, y4, y5, y6, yz⟩ := part_all hx; rw [hk4] at y0; have HX8 := Lib.hid hx; have HB8 := Lib.hid hB; have HK8 := Lib.hid (HK7.out.trans hb); have hq := hb.blk HC7.out (by decide) hbc; obtain ⟨x0, x1, xz⟩ := case_cells hq; have HC8 := Lib.hid hq; clear hq; clear hB hb hx) | (go_at_call_of 84 (Value.string K1); refine (bw_string K1 HB8.out (by first | omega | ((repeat rw [List.length_append]); (repeat rw [size_len]); (repeat rw [List.length_singleton]); omega))).mono ?_; rintro e w9 ⟨rfl, hB, hb⟩; have hx := hb.blk HX8.out (by decide) hbx; obtain ⟨y0, y1, y2, y3, y4, y5, y6, yz⟩ := part_all hx; rw [hk4] at y0; have HX9 := Lib.hid hx; have HB9 := Lib.hid hB; have HK9 := Lib.hid (HK8.out.trans hb); have hq := hb.blk HC8.out (by decide) hbc; obtain ⟨x0, x1, xz⟩ := case_cells hq; have HC9 := Lib.hid hq; clear hq; clear hB hb hx) | (go_at_call 55; refine (HIH.out c.2 false S _ b _ B _ (HEW.out _ (HKW.out.trans (HKR.out.trans HK9.out))) hBb (HLC _ HK9.out) HS.out HB9.out hoc (by omega) (by first | omega | ((repeat rw [List.length_append]); (repeat rw [size_len]); (repeat rw [List.length_singleton]); omega))).mono ?_; rintro e wA ⟨rfl, hB, hb⟩; have hx := hb.blk HX9.out (by decide) hbx; obtain ⟨y0, y1, y2, y3, y4, y5, y6, yz⟩ := part_all hx; rw [hk4] at y0; have HXA := Lib.hid hx; have HBA := Lib.hid hB; have HKA := Lib.hid (HK9.out.trans hb); have hq := hb.blk HC9.out (by decide) hbc; obtain ⟨x0, x1, xz⟩ := case_cells hq; have HCA := Lib.hid hq; clear hq; clear hB hb hx) | (go_at_call_of 86 (Value.int .u8 125); refine (bw_byte 125 (by omega) (by omega) HBA.out (by first | omega | ((repeat rw [List.length_append]); (repeat rw [size_len]); (repeat rw [List.length_singleton]); omega))).mono ?_; rintro e wB ⟨rfl, hB, hb⟩; have hx := hb.blk HXA.out (by decide) hbx; obtain ⟨y0, y1, y2, y3, y4, y5, y6, yz⟩ := part_all hx; rw [hk4] at y0; have HXB := Lib.hid hx; have HBB := Lib.hid hB; have HKB := Lib.hid (HKA.out.trans hb); have hq := hb.blk HCA.out (by decide) hbc; obtain ⟨x0, x1, xz⟩ := case_cells hq; have HCB := Lib.hid hq; clear hq; clear hB hb hx))
                        go_roundw
                        case rel => exact ⟨j + 1, by omega, by go_num, by have hs := HSN.out; have gk := GK.out; rw [if_neg HJ.out] at hs; rw [hs]; have hz := HBB.out; rw [gk] at hz; simpa using hz, HKR.out.trans HKB.out, HXB.out⟩
                        case measure => simp [intOf]; omega
                    · obtain rfl : j = p.cs.length := by omega
                      rw [List.take_length] at hB
                      have HB7 := Lib.hid hB
                      have HX7 := Lib.hid hX
                      have HK7 := Lib.hid (BK2.refl b wr)
                      have HKR := Lib.hid hK
                      have hcl4 := caseW_lenO n false false p.cs HOC.out
                      clear hB hX hK
                      go_wp2_with ((go_at_call_of 86 (Value.int .u8 125); refine (bw_byte 125 (by omega) (by omega) HB7.out (by first | omega | ((repeat rw [List.length_append]); (repeat rw [size_len]); (repeat rw [List.length_singleton]); omega))).mono ?_; rintro e w8 ⟨rfl, hB, hb⟩; have hx := hb.blk HX7.out (by decide) hbx; obtain ⟨y0, y1, y2, y3, y4, y5, y6, yz⟩ := part_all hx; rw [hk4] at y0; have HX8 := Lib.hid hx; have HB8 := Lib.hid hB; have HK8 := Lib.hid (HK7.out.trans hb); clear hB hb hx))
                      go_roundw
                      case rel => exact ⟨k + 1, by omega, by go_num, HFIN.out _ (by have hz := HB8.out; rw [← HAD.out] at hz; simpa using hz) (HKW.out.trans (HKR.out.trans HK8.out))⟩
                      case measure => simp [intOf]; omega
              · rw [hk4] at HFIN a0 HB1 HX1 HK1
                have hg : decide ((5 : Int) ≠ 4) = true := rfl
                rw [hg] at HFIN
                have qw : (⟨#[112, 108, 117, 114, 97, 108]⟩ : ByteArray).size = 6 := rfl
                obtain ⟨X1, z1, g1, HA1⟩ := add_run ⟨#[123]⟩ p.nm (by rw [q1]; omega)
                obtain ⟨X2, z2, g2, HA2⟩ := add_run X1 ⟨#[44, 32]⟩ (by rw [q2]; omega)
                obtain ⟨X3, z3, g3, HA3⟩ := add_run X2 ⟨#[112, 108, 117, 114, 97, 108]⟩ (by rw [qw]; omega)
                obtain ⟨X4, z4, g4, HA4⟩ := add_run X3 ⟨#[44, 32]⟩ (by rw [q2]; omega)
                have g5 : X4.data.toList = [123] ++ p.nm.data.toList ++ [44, 32] ++ (wordB 5).data.toList ++ [44, 32] := by rw [g4, g3, g2, g1]; rfl
                rw [← g5] at HFIN
                have HIW := fun W => idx_word1 W (.string ⟨#[115, 101, 108, 101, 99, 116]⟩) (.string ⟨#[112, 108, 117, 114, 97, 108]⟩) (.string ⟨#[115, 101, 108, 101, 99, 116, 111, 114, 100, 105, 110, 97, 108]⟩)
                have hk1' : ∀ m : Int, m ≠ 5 → (p.k == m) = false := fun m hm => by rw [hk4]; simpa using fun h => hm h.symm
                clear g1 g2 g3 g4 g5 hg hk1'
                by_cases ho0 : p.off = 0
                · rw [if_pos ho0] at HFIN
                  rw [ho0] at a5 HB1 HX1 HK1
                  go_wp2_with ((go_at_call_of 84 (Value.string X4); refine (bw_string X4 HB1.out (by first | omega | ((repeat rw [List.length_append]); (repeat rw [size_len]); (repeat rw [List.length_singleton]); omega))).mono ?_; rintro e w3 ⟨rfl, hB, hb⟩; have hx := hb.blk HX1.out (by decide) hbx; obtain ⟨y0, y1, y2, y3, y4, y5, y6, yz⟩ := part_all hx; rw [hk4] at y0; rw [ho0] at y5; have HX3 := Lib.hid hx; have HB3 := Lib.hid hB; have HK3 := Lib.hid (HK1.out.trans hb); clear hB hb hx))
                  have hadl : (ac ++ X4.data.toList).length ≤ ac.length + 100 * (1 + p.nm.size) := by simp only [List.length_append, size_len]; omega
                  generalize had : ac ++ X4.data.toList = ad at *
                  have HAD := Lib.hid had; clear had
                  go_loopw [87] (fun i wx => ∃ j : Nat, j ≤ p.cs.length ∧ i = .int .i64 j ∧ Bld b (ad ++ caseW (fun m => writeF n m true) false (p.cs.take j)) wx ∧ BK2 b wr wx ∧ Blk wx wr.heap.size 68 (p.cells (.slice Ac p.cs.length cc)).toArray) (fun i _ => p.cs.length - (intOf i).toNat)
                  case atStart => exact ⟨0, Nat.zero_le _, rfl, by simpa [caseW] using HB3.out, HK3.out, HX3.out⟩
                  case round =>
                    obtain ⟨j, hj, rfl, hB, hK, hX⟩ := hrel
                    obtain ⟨y0, y1, y2, y3, y4, y5, y6, yz⟩ := part_all hX
                    rw [hk4] at y0
                    by_cases hlt2 : j < p.cs.length
                    · obtain ⟨c, hc⟩ : ∃ c, p.cs[j]? = some c := ⟨_, List.getElem?_eq_getElem hlt2⟩
                      obtain ⟨A3, cap3, he, _, hcat⟩ := liesC_open (HCL.out.below hK.below HS.out)
                      injection he with he1 he2 he3
                      subst he1; subst he3
                      obtain ⟨b2, o2, pv, rfl, hb2, e1, e2, hL⟩ := hcat j c hc
                      obtain ⟨Ap, mp, kp, rfl⟩ := hL.form
                      have hsn := caseW_snoc (fun m => writeF n m true) p.cs j c hc
                      have HSN := Lib.hid hsn
                      have hoc := HOC.out c (List.mem_of_getElem? hc)
                      have hcl3 := caseW_take_len n true p.cs j c hc HOC.out
                      have hwc := allO_len n c.2 true hoc
                      have hbL2 := hB.lt
                      have hbc : wr.heap.size ≠ b := by omega
                      generalize hcj : caseW (fun m => writeF n m true) false (p.cs.take j) = cj at *
                      have hk6 : BK2 b wr (wr.alloc (.cells #[.string c.1, .slice Ap mp kp] 70)) := (BK2.refl b wr).alloc (by omega) _
                      have HB7 := Lib.hid (hB.alloc (.cells #[.string c.1, .slice Ap mp kp] 70))
                      have HX7 := Lib.hid (hk6.blk hX (by decide) hbx)
                      have HC7 : Hid (Blk (wr.alloc (.cells #[.string c.1, .slice Ap mp kp] 70)) wr.heap.size 70 #[.string c.1, .slice Ap mp kp]) := Blk.new _ _ _
                      have HK7 := Lib.hid hk6
                      have HKR := Lib.hid hK
                      have HLW := Lib.hid hL
                      have HLC : ∀ W, BK2 b wr W → Lies n S W (.slice Ap mp kp) c.2 := fun W hW => hL.below hW.below HS.out
                      obtain ⟨K1, zk, gk, HAK⟩ := add_run c.1 ⟨#[123]⟩ (by rw [q1]; omega)
                      have GK := Lib.hid gk
                      clear hcat hsn hB hK hX hL hk6 gk hc hcj
                      by_cases hj0 : j = 0
                      · have hj1 : ¬ ((0 : Int) < (j : Int)) := by omega
                        have HJ := Lib.hid hj0
                        clear hj0
                        go_wp2_with (first | (go_at_call_of 84 (Value.string K1); refine (bw_string K1 HB7.out (by first | omega | ((repeat rw [List.length_append]); (repeat rw [size_len]); (repeat rw [List.length_singleton]); omega))).mono ?_; rintro e w9 ⟨rfl, hB, hb⟩; have hx := hb.blk HX7.out (by decide) hbx; obtain ⟨y0, y1, y2, y3, y4, y5, y6, yz⟩ := part_all hx; rw [hk4] at y0; have HX9 := Lib.hid hx; have HB9 := Lib.hid hB; have HK9 := Lib.hid (HK7.out.trans hb); have hq := hb.blk HC7.out (by decide) hbc; obtain ⟨x0, x1, xz⟩ := case_cells hq; have HC9 := Lib.hid hq; clear hq; clear hB hb hx) | (go_at_call 55; refine (HIH.out c.2 true S _ b _ B _ (HEW.out _ (HKW.out.trans (HKR.out.trans HK9.out))) hBb (HLC _ HK9.out) HS.out HB9.out hoc (by omega) (by first | omega | ((repeat rw [List.length_append]); (repeat rw [size_len]); (repeat rw [List.length_singleton]); omega))).mono ?_; rintro e wA ⟨rfl, hB, hb⟩; have hx := hb.blk HX9.out (by decide) hbx; obtain ⟨y0, y1, y2, y3, y4, y5, y6, yz⟩ := part_all hx; rw [hk4] at y0; have HXA := Lib.hid hx; have HBA := Lib.hid hB; have HKA := Lib.hid (HK9.out.trans hb); have hq := hb.blk HC9.out (by decide) hbc; obtain ⟨x0, x1, xz⟩ := case_cells hq; have HCA := Lib.hid hq; clear hq; clear hB hb hx) | (go_at_call_of 86 (Value.int .u8 125); refine (bw_byte 125 (by omega) (by omega) HBA.out (by first | omega | ((repeat rw [List.length_append]); (repeat rw [size_len]); (repeat rw [List.length_singleton]); omega))).mono ?_; rintro e wB ⟨rfl, hB, hb⟩; have hx := hb.blk HXA.out (by decide) hbx; obtain ⟨y0, y1, y2, y3, y4, y5, y6, yz⟩ := part_all hx; rw [hk4] at y0; have HXB := Lib.hid hx; have HBB := Lib.hid hB; have HKB := Lib.hid (HKA.out.trans hb); have hq := hb.blk HCA.out (by decide) hbc; obtain ⟨x0, x1, xz⟩ := case_cells hq; have HCB := Lib.hid hq; clear hq; clear hB hb hx))
                        go_roundw
                        case rel => exact ⟨j + 1, by omega, by go_num, by have hs := HSN.out; have gk := GK.out; rw [if_pos HJ.out] at hs; rw [hs]; have hz := HBB.out; rw [gk] at hz; simpa using hz, HKR.out.trans HKB.out, HXB.out⟩
                        case measure => simp [intOf]; omega
                      · have hj1 : (0 : Int) < (j : Int) := by omega
                        have HJ := Lib.hid hj0
                        clear hj0
                        go_wp2_with (first | (go_at_call_of 86 (Value.int .u8 32); refine (bw_byte 32 (by omega) (by omega) HB7.out (by first | omega | ((repeat rw [List.length_append]); (repeat rw [size_len]); (repeat rw [List.length_singleton]); omega))).mono ?_; rintro e w8 ⟨rfl, hB, hb⟩; have hx := hb.blk HX7.out (by decide) hbx; obtain ⟨y0, y1, y2, y3, y4, y5, y6, yz⟩ := part_all hx; rw [hk4] at y0; have HX8 := Lib.hid hx; have HB8 := Lib.hid hB; have HK8 := Lib.hid (HK7.out.trans hb); have hq := hb.blk HC7.out (by decide) hbc; obtain ⟨x0, x1, xz⟩ := case_cells hq; have HC8 := Lib.hid hq; clear hq; clear hB hb hx) | (go_at_call_of 84 (Value.string K1); refine (bw_string K1 HB8.out (by first | omega | ((repeat rw [List.length_append]); (repeat rw [size_len]); (repeat rw [List.length_singleton]); omega))).mono ?_; rintro e w9 ⟨rfl, hB, hb⟩; have hx := hb.blk HX8.out (by decide) hbx; obtain ⟨y0, y1, y2, y3, y4, y5, y6, yz⟩ := part_all hx; rw [hk4] at y0; have HX9 := Lib.hid hx; have HB9 := Lib.hid hB; have HK9 := Lib.hid (HK8.out.trans hb); have hq := hb.blk HC8.out (by decide) hbc; obtain ⟨x0, x1, xz⟩ := case_cells hq; have HC9 := Lib.hid hq; clear hq; clear hB hb hx) | (go_at_call 55; refine (HIH.out c.2 true S _ b _ B _ (HEW.out _ (HKW.out.trans (HKR.out.trans HK9.out))) hBb (HLC _ HK9.out) HS.out HB9.out hoc (by omega) (by first | omega | ((repeat rw [List.length_append]); (repeat rw [size_len]); (repeat rw [List.length_singleton]); omega))).mono ?_; rintro e wA ⟨rfl, hB, hb⟩; have hx := hb.blk HX9.out (by decide) hbx; obtain ⟨y0, y1, y2, y3, y4, y5, y6, yz⟩ := part_all hx; rw [hk4] at y0; have HXA := Lib.hid hx; have HBA := Lib.hid hB; have HKA := Lib.hid (HK9.out.trans hb); have hq := hb.blk HC9.out (by decide) hbc; obtain ⟨x0, x1, xz⟩ := case_cells hq; have HCA := Lib.hid hq; clear hq; clear hB hb hx) | (go_at_call_of 86 (Value.int .u8 125); refine (bw_byte 125 (by omega) (by omega) HBA.out (by first | omega | ((repeat rw [List.length_append]); (repeat rw [size_len]); (repeat rw [List.length_singleton]); omega))).mono ?_; rintro e wB ⟨rfl, hB, hb⟩; have hx := hb.blk HXA.out (by decide) hbx; obtain ⟨y0, y1, y2, y3, y4, y5, y6, yz⟩ := part_all hx; rw [hk4] at y0; have HXB := Lib.hid hx; have HBB := Lib.hid hB; have HKB := Lib.hid (HKA.out.trans hb); have hq := hb.blk HCA.out (by decide) hbc; obtain ⟨x0, x1, xz⟩ := case_cells hq; have HCB := Lib.hid hq; clear hq; clear hB hb hx))
                        go_roundw
                        case rel => exact ⟨j + 1, by omega, by go_num, by have hs := HSN.out; have gk := GK.out; rw [if_neg HJ.out] at hs; rw [hs]; have hz := HBB.out; rw [gk] at hz; simpa using hz, HKR.out.trans HKB.out, HXB.out⟩
                        case measure => simp [intOf]; omega
                    · obtain rfl : j = p.cs.length := by omega
                      rw [List.take_length] at hB
                      have HB7 := Lib.hid hB
                      have HX7 := Lib.hid hX
                      have HK7 := Lib.hid (BK2.refl b wr)
                      have HKR := Lib.hid hK
                      have hcl4 := caseW_lenO n true false p.cs HOC.out
                      clear hB hX hK
                      go_wp2_with ((go_at_call_of 86 (Value.int .u8 125); refine (bw_byte 125 (by omega) (by omega) HB7.out (by first | omega | ((repeat rw [List.length_append]); (repeat rw [size_len]); (repeat rw [List.length_singleton]); omega))).mono ?_; rintro e w8 ⟨rfl, hB, hb⟩; have hx := hb.blk HX7.out (by decide) hbx; obtain ⟨y0, y1, y2, y3, y4, y5, y6, yz⟩ := part_all hx; rw [hk4] at y0; have HX8 := Lib.hid hx; have HB8 := Lib.hid hB; have HK8 := Lib.hid (HK7.out.trans hb); clear hB hb hx))
                      go_roundw
                      case rel => exact ⟨k + 1, by omega, by go_num, HFIN.out _ (by have hz := HB8.out; rw [← HAD.out] at hz; simpa using hz) (HKW.out.trans (HKR.out.trans HK8.out))⟩
                      case measure => simp [intOf]; omega
                · rw [if_neg ho0] at HFIN
                  have HIT : Hid (∀ W, EnvM B W → Calls Tryz.prog 87 #[.int .i64 p.off] W fun e w' => e = .returned (.string ⟨(Lib.itoa p.off).toArray⟩) ∧ ∃ k os, w' = Go.Sort.grow (W.drewN k) os) := fun W hW => Tryz.strconv_Itoa p.off (by have := hop.1; omega) (by have := hop.2; omega) W hW.vars.pow
                  have hi1 : (⟨(Lib.itoa p.off).toArray⟩ : ByteArray).size ≤ 21 := by have := itoa_off hop; rw [toArr_size]; exact this
                  have hi2 : (⟨(Lib.itoa p.off).toArray⟩ : ByteArray).data.toList = Lib.itoa p.off := by simp
                  generalize (⟨(Lib.itoa p.off).toArray⟩ : ByteArray) = I1 at *
                  have qo : (⟨#[111, 102, 102, 115, 101, 116, 58]⟩ : ByteArray).size = 7 := rfl
                  have q3 : (⟨#[32]⟩ : ByteArray).size = 1 := rfl
                  obtain ⟨Y1, zy1, gy1, HY1⟩ := add_run ⟨#[111, 102, 102, 115, 101, 116, 58]⟩ I1 (by rw [qo]; omega)
                  obtain ⟨Y2, zy2, gy2, HY2⟩ := add_run Y1 ⟨#[32]⟩ (by rw [q3]; omega)
                  have gy : Y2.data.toList = offW ++ Lib.itoa p.off ++ [32] := by rw [gy2, gy1, hi2]; rfl
                  rw [← gy] at HFIN
                  have ho1 : (p.off == 0) = false := by simpa using ho0
                  clear gy1 gy2 gy hi2
                  go_wp2_with (first | (go_at_call_of 84 (Value.string X4); refine (bw_string X4 HB1.out (by first | omega | ((repeat rw [List.length_append]); (repeat rw [size_len]); (repeat rw [List.length_singleton]); omega))).mono ?_; rintro e w3 ⟨rfl, hB, hb⟩; have hx := hb.blk HX1.out (by decide) hbx; obtain ⟨y0, y1, y2, y3, y4, y5, y6, yz⟩ := part_all hx; rw [hk4] at y0; have HX3 := Lib.hid hx; have HB3 := Lib.hid hB; have HK3 := Lib.hid (HK1.out.trans hb); clear hB hb hx) | (go_at_call 87; refine (HIT.out _ (HEW.out _ (HKW.out.trans HK3.out))).mono ?_; rintro e w4 ⟨rfl, ki, osi, hw4⟩; have hki : Keep [] w3 w4 := (by rw [hw4]; exact Keep.of_below (below_itoa w3 ki osi)); have hx := HX3.out.keep hki (by simp); obtain ⟨y0, y1, y2, y3, y4, y5, y6, yz⟩ := part_all hx; rw [hk4] at y0; have HX4 := Lib.hid hx; have HB4 := Lib.hid (HB3.out.keep_nil hki); have HK4 := Lib.hid (HK3.out.keep hki (Nat.le_of_lt HB3.out.lt)); clear hw4 hki hx) | (go_at_call_of 84 (Value.string Y2); refine (bw_string Y2 HB4.out (by first | omega | ((repeat rw [List.length_append]); (repeat rw [size_len]); (repeat rw [List.length_singleton]); omega))).mono ?_; rintro e w5 ⟨rfl, hB, hb⟩; have hx := hb.blk HX4.out (by decide) hbx; obtain ⟨y0, y1, y2, y3, y4, y5, y6, yz⟩ := part_all hx; rw [hk4] at y0; have HX5 := Lib.hid hx; have HB5 := Lib.hid hB; have HK5 := Lib.hid (HK4.out.trans hb); clear hB hb hx))
                  have hadl : (ac ++ X4.data.toList ++ Y2.data.toList).length ≤ ac.length + 100 * (1 + p.nm.size) := by simp only [List.length_append, size_len]; omega
                  generalize had : ac ++ X4.data.toList ++ Y2.data.toList = ad at *
                  have HAD := Lib.hid had; clear had
                  go_loopw [87] (fun i wx => ∃ j : Nat, j ≤ p.cs.length ∧ i = .int .i64 j ∧ Bld b (ad ++ caseW (fun m => writeF n m true) false (p.cs.take j)) wx ∧ BK2 b wr wx ∧ Blk wx wr.heap.size 68 (p.cells (.slice Ac p.cs.length cc)).toArray) (fun i _ => p.cs.length - (intOf i).toNat)
                  case atStart => exact ⟨0, Nat.zero_le _, rfl, by simpa [caseW] using HB5.out, HK5.out, HX5.out⟩
                  case round =>
                    obtain ⟨j, hj, rfl, hB, hK, hX⟩ := hrel
                    obtain ⟨y0, y1, y2, y3, y4, y5, y6, yz⟩ := part_all hX
                    rw [hk4] at y0
                    by_cases hlt2 : j < p.cs.length
                    · obtain ⟨c, hc⟩ : ∃ c, p.cs[j]? = some c := ⟨_, List.getElem?_eq_getElem hlt2⟩
                      obtain ⟨A3, cap3, he, _, hcat⟩ := liesC_open (HCL.out.below hK.below HS.out)
                      injection he with he1 he2 he3
                      subst he1; subst he3
                      obtain ⟨b2, o2, pv, rfl, hb2, e1, e2, hL⟩ := hcat j c hc
                      obtain ⟨Ap, mp, kp, rfl⟩ := hL.form
                      have hsn := caseW_snoc (fun m => writeF n m true) p.cs j c hc
                      have HSN := Lib.hid hsn
                      have hoc := HOC.out c (List.mem_of_getElem? hc)
                      have hcl3 := caseW_take_len n true p.cs j c hc HOC.out
                      have hwc := allO_len n c.2 true hoc
                      have hbL2 := hB.lt
                      have hbc : wr.heap.size ≠ b := by omega
                      generalize hcj : caseW (fun m => writeF n m true) false (p.cs.take j) = cj at *
                      have hk6 : BK2 b wr (wr.alloc (.cells #[.string c.1, .slice Ap mp kp] 70)) := (BK2.refl b wr).alloc (by omega) _
                      have HB7 := Lib.hid (hB.alloc (.cells #[.string c.1, .slice Ap mp kp] 70))
                      have HX7 := Lib.hid (hk6.blk hX (by decide) hbx)
                      have HC7 : Hid (Blk (wr.alloc (.cells #[.string c.1, .slice Ap mp kp] 70)) wr.heap.size 70 #[.string c.1, .slice Ap mp kp]) := Blk.new _ _ _
                      have HK7 := Lib.hid hk6
                      have HKR := Lib.hid hK
                      have HLW := Lib.hid hL
                      have HLC : ∀ W, BK2 b wr W → Lies n S W (.slice Ap mp kp) c.2 := fun W hW => hL.below hW.below HS.out
                      obtain ⟨K1, zk, gk, HAK⟩ := add_run c.1 ⟨#[123]⟩ (by rw [q1]; omega)
                      have GK := Lib.hid gk
                      clear hcat hsn hB hK hX hL hk6 gk hc hcj
                      by_cases hj0 : j = 0
                      · have hj1 : ¬ ((0 : Int) < (j : Int)) := by omega
                        have HJ := Lib.hid hj0
                        clear hj0
                        go_wp2_with (first | (go_at_call_of 84 (Value.string K1); refine (bw_string K1 HB7.out (by first | omega | ((repeat rw [List.length_append]); (repeat rw [size_len]); (repeat rw [List.length_singleton]); omega))).mono ?_; rintro e w9 ⟨rfl, hB, hb⟩; have hx := hb.blk HX7.out (by decide) hbx; obtain ⟨y0, y1, y2, y3, y4, y5, y6, yz⟩ := part_all hx; rw [hk4] at y0; have HX9 := Lib.hid hx; have HB9 := Lib.hid hB; have HK9 := Lib.hid (HK7.out.trans hb); have hq := hb.blk HC7.out (by decide) hbc; obtain ⟨x0, x1, xz⟩ := case_cells hq; have HC9 := Lib.hid hq; clear hq; clear hB hb hx) | (go_at_call 55; refine (HIH.out c.2 true S _ b _ B _ (HEW.out _ (HKW.out.trans (HKR.out.trans HK9.out))) hBb (HLC _ HK9.out) HS.out HB9.out hoc (by omega) (by first | omega | ((repeat rw [List.length_append]); (repeat rw [size_len]); (repeat rw [List.length_singleton]); omega))).mono ?_; rintro e wA ⟨rfl, hB, hb⟩; have hx := hb.blk HX9.out (by decide) hbx; obtain ⟨y0, y1, y2, y3, y4, y5, y6, yz⟩ := part_all hx; rw [hk4] at y0; have HXA := Lib.hid hx; have HBA := Lib.hid hB; have HKA := Lib.hid (HK9.out.trans hb); have hq := hb.blk HC9.out (by decide) hbc; obtain ⟨x0, x1, xz⟩ := case_cells hq; have HCA := Lib.hid hq; clear hq; clear hB hb hx) | (go_at_call_of 86 (Value.int .u8 125); refine (bw_byte 125 (by omega) (by omega) HBA.out (by first | omega | ((repeat rw [List.length_append]); (repeat rw [size_len]); (repeat rw [List.length_singleton]); omega))).mono ?_; rintro e wB ⟨rfl, hB, hb⟩; have hx := hb.blk HXA.out (by decide) hbx; obtain ⟨y0, y1, y2, y3, y4, y5, y6, yz⟩ := part_all hx; rw [hk4] at y0; have HXB := Lib.hid hx; have HBB := Lib.hid hB; have HKB := Lib.hid (HKA.out.trans hb); have hq := hb.blk HCA.out (by decide) hbc; obtain ⟨x0, x1, xz⟩ := case_cells hq; have HCB := Lib.hid hq; clear hq; clear hB hb hx))
                        go_roundw
                        case rel => exact ⟨j + 1, by omega, by go_num, by have hs := HSN.out; have gk := GK.out; rw [if_pos HJ.out] at hs; rw [hs]; have hz := HBB.out; rw [gk] at hz; simpa using hz, HKR.out.trans HKB.out, HXB.out⟩
                        case measure => simp [intOf]; omega
                      · have hj1 : (0 : Int) < (j : Int) := by omega
                        have HJ := Lib.hid hj0
                        clear hj0
                        go_wp2_with (first | (go_at_call_of 86 (Value.int .u8 32); refine (bw_byte 32 (by omega) (by omega) HB7.out (by first | omega | ((repeat rw [List.length_append]); (repeat rw [size_len]); (repeat rw [List.length_singleton]); omega))).mono ?_; rintro e w8 ⟨rfl, hB, hb⟩; have hx := hb.blk HX7.out (by decide) hbx; obtain ⟨y0, y1, y2, y3, y4, y5, y6, yz⟩ := part_all hx; rw [hk4] at y0; have HX8 := Lib.hid hx; have HB8 := Lib.hid hB; have HK8 := Lib.hid (HK7.out.trans hb); have hq := hb.blk HC7.out (by decide) hbc; obtain ⟨x0, x1, xz⟩ := case_cells hq; have HC8 := Lib.hid hq; clear hq; clear hB hb hx) | (go_at_call_of 84 (Value.string K1); refine (bw_string K1 HB8.out (by first | omega | ((repeat rw [List.length_append]); (repeat rw [size_len]); (repeat rw [List.length_singleton]); omega))).mono ?_; rintro e w9 ⟨rfl, hB, hb⟩; have hx := hb.blk HX8.out (by decide) hbx; obtain ⟨y0, y1, y2, y3, y4, y5, y6, yz⟩ := part_all hx; rw [hk4] at y0; have HX9 := Lib.hid hx; have HB9 := Lib.hid hB; have HK9 := Lib.hid (HK8.out.trans hb); have hq := hb.blk HC8.out (by decide) hbc; obtain ⟨x0, x1, xz⟩ := case_cells hq; have HC9 := Lib.hid hq; clear hq; clear hB hb hx) | (go_at_call 55; refine (HIH.out c.2 true S _ b _ B _ (HEW.out _ (HKW.out.trans (HKR.out.trans HK9.out))) hBb (HLC _ HK9.out) HS.out HB9.out hoc (by omega) (by first | omega | ((repeat rw [List.length_append]); (repeat rw [size_len]); (repeat rw [List.length_singleton]); omega))).mono ?_; rintro e wA ⟨rfl, hB, hb⟩; have hx := hb.blk HX9.out (by decide) hbx; obtain ⟨y0, y1, y2, y3, y4, y5, y6, yz⟩ := part_all hx; rw [hk4] at y0; have HXA := Lib.hid hx; have HBA := Lib.hid hB; have HKA := Lib.hid (HK9.out.trans hb); have hq := hb.blk HC9.out (by decide) hbc; obtain ⟨x0, x1, xz⟩ := case_cells hq; have HCA := Lib.hid hq; clear hq; clear hB hb hx) | (go_at_call_of 86 (Value.int .u8 125); refine (bw_byte 125 (by omega) (by omega) HBA.out (by first | omega | ((repeat rw [List.length_append]); (repeat rw [size_len]); (repeat rw [List.length_singleton]); omega))).mono ?_; rintro e wB ⟨rfl, hB, hb⟩; have hx := hb.blk HXA.out (by decide) hbx; obtain ⟨y0, y1, y2, y3, y4, y5, y6, yz⟩ := part_all hx; rw [hk4] at y0; have HXB := Lib.hid hx; have HBB := Lib.hid hB; have HKB := Lib.hid (HKA.out.trans hb); have hq := hb.blk HCA.out (by decide) hbc; obtain ⟨x0, x1, xz⟩ := case_cells hq; have HCB := Lib.hid hq; clear hq; clear hB hb hx))
                        go_roundw
                        case rel => exact ⟨j + 1, by omega, by go_num, by have hs := HSN.out; have gk := GK.out; rw [if_neg HJ.out] at hs; rw [hs]; have hz := HBB.out; rw [gk] at hz; simpa using hz, HKR.out.trans HKB.out, HXB.out⟩
                        case measure => simp [intOf]; omega
                    · obtain rfl : j = p.cs.length := by omega
                      rw [List.take_length] at hB
                      have HB7 := Lib.hid hB
                      have HX7 := Lib.hid hX
                      have HK7 := Lib.hid (BK2.refl b wr)
                      have HKR := Lib.hid hK
                      have hcl4 := caseW_lenO n true false p.cs HOC.out
                      clear hB hX hK
                      go_wp2_with ((go_at_call_of 86 (Value.int .u8 125); refine (bw_byte 125 (by omega) (by omega) HB7.out (by first | omega | ((repeat rw [List.length_append]); (repeat rw [size_len]); (repeat rw [List.length_singleton]); omega))).mono ?_; rintro e w8 ⟨rfl, hB, hb⟩; have hx := hb.blk HX7.out (by decide) hbx; obtain ⟨y0, y1, y2, y3, y4, y5, y6, yz⟩ := part_all hx; rw [hk4] at y0; have HX8 := Lib.hid hx; have HB8 := Lib.hid hB; have HK8 := Lib.hid (HK7.out.trans hb); clear hB hb hx))
                      go_roundw
                      case rel => exact ⟨k + 1, by omega, by go_num, HFIN.out _ (by have hz := HB8.out; rw [← HAD.out] at hz; simpa using hz) (HKW.out.trans (HKR.out.trans HK8.out))⟩
                      case measure => simp [intOf]; omega
              · rw [hk4] at HFIN a0 HB1 HX1 HK1
                have hg : decide ((6 : Int) ≠ 4) = true := rfl
                rw [hg] at HFIN
                have qw : (⟨#[115, 101, 108, 101, 99, 116, 111, 114, 100, 105, 110, 97, 108]⟩ : ByteArray).size = 13 := rfl
                obtain ⟨X1, z1, g1, HA1⟩ := add_run ⟨#[123]⟩ p.nm (by rw [q1]; omega)
                obtain ⟨X2, z2, g2, HA2⟩ := add_run X1 ⟨#[44, 32]⟩ (by rw [q2]; omega)
                obtain ⟨X3, z3, g3, HA3⟩ := add_run X2 ⟨#[115, 101, 108, 101, 99, 116, 111, 114, 100, 105, 110, 97, 108]⟩ (by rw [qw]; omega)
                obtain ⟨X4, z4, g4, HA4⟩ := add_run X3 ⟨#[44, 32]⟩ (by rw [q2]; omega)
                have g5 : X4.data.toList = [123] ++ p.nm.data.toList ++ [44, 32] ++ (wordB 6).data.toList ++ [44, 32] := by rw [g4, g3, g2, g1]; rfl
                rw [← g5] at HFIN
                have HIW := fun W => idx_word2 W (.string ⟨#[115, 101, 108, 101, 99, 116]⟩) (.string ⟨#[112, 108, 117, 114, 97, 108]⟩) (.string ⟨#[115, 101, 108, 101, 99, 116, 111, 114, 100, 105, 110, 97, 108]⟩)
                have hk1' : ∀ m : Int, m ≠ 6 → (p.k == m) = false := fun m hm => by rw [hk4]; simpa using fun h => hm h.symm
                clear g1 g2 g3 g4 g5 hg hk1'
                by_cases ho0 : p.off = 0
                · rw [if_pos ho0] at HFIN
                  rw [ho0] at a5 HB1 HX1 HK1
                  go_wp2_with ((go_at_call_of 84 (Value.string X4); refine (bw_string X4 HB1.out (by first | omega | ((repeat rw [List.length_append]); (repeat rw [size_len]); (repeat rw [List.length_singleton]); omega))).mono ?_; rintro e w3 ⟨rfl, hB, hb⟩; have hx := hb.blk HX1.out (by decide) hbx; obtain ⟨y0, y1, y2, y3, y4, y5, y6, yz⟩ := part_all hx; rw [hk4] at y0; rw [ho0] at y5; have HX3 := Lib.hid hx; have HB3 := Lib.hid hB; have HK3 := Lib.hid (HK1.out.trans hb); clear hB hb hx))
                  have hadl : (ac ++ X4.data.toList).length ≤ ac.length + 100 * (1 + p.nm.size) := by simp only [List.length_append, size_len]; omega
                  generalize had : ac ++ X4.data.toList = ad at *
                  have HAD := Lib.hid had; clear had
                  go_loopw [87] (fun i wx => ∃ j : Nat, j ≤ p.cs.length ∧ i = .int .i64 j ∧ Bld b (ad ++ caseW (fun m => writeF n m true) false (p.cs.take j)) wx ∧ BK2 b wr wx ∧ Blk wx wr.heap.size 68 (p.cells (.slice Ac p.cs.length cc)).toArray) (fun i _ => p.cs.length - (intOf i).toNat)
                  case atStart => exact ⟨0, Nat.zero_le _, rfl, by simpa [caseW] using HB3.out, HK3.out, HX3.out⟩
                  case round =>
                    obtain ⟨j, hj, rfl, hB, hK, hX⟩ := hrel
                    obtain ⟨y0, y1, y2, y3, y4, y5, y6, yz⟩ := part_all hX
                    rw [hk4] at y0
                    by_cases hlt2 : j < p.cs.length
                    · obtain ⟨c, hc⟩ : ∃ c, p.cs[j]? = some c := ⟨_, List.getElem?_eq_getElem hlt2⟩
                      obtain ⟨A3, cap3, he, _, hcat⟩ := liesC_open (HCL.out.below hK.below HS.out)
                      injection he with he1 he2 he3
                      subst he1; subst he3
                      obtain ⟨b2, o2, pv, rfl, hb2, e1, e2, hL⟩ := hcat j c hc
                      obtain ⟨Ap, mp, kp, rfl⟩ := hL.form
                      have hsn := caseW_snoc (fun m => writeF n m true) p.cs j c hc
                      have HSN := Lib.hid hsn
                      have hoc := HOC.out c (List.mem_of_getElem? hc)
                      have hcl3 := caseW_take_len n true p.cs j c hc HOC.out
                      have hwc := allO_len n c.2 true hoc
                      have hbL2 := hB.lt
                      have hbc : wr.heap.size ≠ b := by omega
                      generalize hcj : caseW (fun m => writeF n m true) false (p.cs.take j) = cj at *
                      have hk6 : BK2 b wr (wr.alloc (.cells #[.string c.1, .slice Ap mp kp] 70)) := (BK2.refl b wr).alloc (by omega) _
                      have HB7 := Lib.hid (hB.alloc (.cells #[.string c.1, .slice Ap mp kp] 70))
                      have HX7 := Lib.hid (hk6.blk hX (by decide) hbx)
                      have HC7 : Hid (Blk (wr.alloc (.cells #[.string c.1, .slice Ap mp kp] 70)) wr.heap.size 70 #[.string c.1, .slice Ap mp kp]) := Blk.new _ _ _
                      have HK7 := Lib.hid hk6
                      have HKR := Lib.hid hK
                      have HLW := Lib.hid hL
                      have HLC : ∀ W, BK2 b wr W → Lies n S W (.slice Ap mp kp) c.2 := fun W hW => hL.below hW.below HS.out
                      obtain ⟨K1, zk, gk, HAK⟩ := add_run c.1 ⟨#[123]⟩ (by rw [q1]; omega)
                      have GK := Lib.hid gk
                      clear hcat hsn hB hK hX hL hk6 gk hc hcj
                      by_cases hj0 : j = 0
                      · have hj1 : ¬ ((0 : Int) < (j : Int)) := by omega
                        have HJ := Lib.hid hj0
                        clear hj0
                        go_wp2_with (first | (go_at_call_of 84 (Value.string K1); refine (bw_string K1 HB7.out (by first | omega | ((repeat rw [List.length_append]); (repeat rw [size_len]); (repeat rw [List.length_singleton]); omega))).mono ?_; rintro e w9 ⟨rfl, hB, hb⟩; have hx := hb.blk HX7.out (by decide) hbx; obtain ⟨y0, y1, y2, y3, y4, y5, y6, yz⟩ := part_all hx; rw [hk4] at y0; have HX9 := Lib.hid hx; have HB9 := Lib.hid hB; have HK9 := Lib.hid (HK7.out.trans hb); have hq := hb.blk HC7.out (by decide) hbc; obtain ⟨x0, x1, xz⟩ := case_cells hq; have HC9 := Lib.hid hq; clear hq; clear hB hb hx) | (go_at_call 55; refine (HIH.out c.2 true S _ b _ B _ (HEW.out _ (HKW.out.trans (HKR.out.trans HK9.out))) hBb (HLC _ HK9.out) HS.out HB9.out hoc (by omega) (by first | omega | ((repeat rw [List.length_append]); (repeat rw [size_len]); (repeat rw [List.length_singleton]); omega))).mono ?_; rintro e wA ⟨rfl, hB, hb⟩; have hx := hb.blk HX9.out (by decide) hbx; obtain ⟨y0, y1, y2, y3, y4, y5, y6, yz⟩ := part_all hx; rw [hk4] at y0; have HXA := Lib.hid hx; have HBA := Lib.hid hB; have HKA := Lib.hid (HK9.out.trans hb); have hq := hb.blk HC9.out (by decide) hbc; obtain ⟨x0, x1, xz⟩ := case_cells hq; have HCA := Lib.hid hq; clear hq; clear hB hb hx) | (go_at_call_of 86 (Value.int .u8 125); refine (bw_byte 125 (by omega) (by omega) HBA.out (by first | omega | ((repeat rw [List.length_append]); (repeat rw [size_len]); (repeat rw [List.length_singleton]); omega))).mono ?_; rintro e wB ⟨rfl, hB, hb⟩; have hx := hb.blk HXA.out (by decide) hbx; obtain ⟨y0, y1, y2, y3, y4, y5, y6, yz⟩ := part_all hx; rw [hk4] at y0; have HXB := Lib.hid hx; have HBB := Lib.hid hB; have HKB := Lib.hid (HKA.out.trans hb); have hq := hb.blk HCA.out (by decide) hbc; obtain ⟨x0, x1, xz⟩ := case_cells hq; have HCB := Lib.hid hq; clear hq; clear hB hb hx))
                        go_roundw
                        case rel => exact ⟨j + 1, by omega, by go_num, by have hs := HSN.out; have gk := GK.out; rw [if_pos HJ.out] at hs; rw [hs]; have hz := HBB.out; rw [gk] at hz; simpa using hz, HKR.out.trans HKB.out, HXB.out⟩
                        case measure => simp [intOf]; omega
                      · have hj1 : (0 : Int) < (j : Int) := by omega
                        have HJ := Lib.hid hj0
                        clear hj0
                        go_wp2_with (first | (go_at_call_of 86 (Value.int .u8 32); refine (bw_byte 32 (by omega) (by omega) HB7.out (by first | omega | ((repeat rw [List.length_append]); (repeat rw [size_len]); (repeat rw [List.length_singleton]); omega))).mono ?_; rintro e w8 ⟨rfl, hB, hb⟩; have hx := hb.blk HX7.out (by decide) hbx; obtain ⟨y0, y1, y2, y3, y4, y5, y6, yz⟩ := part_all hx; rw [hk4] at y0; have HX8 := Lib.hid hx; have HB8 := Lib.hid hB; have HK8 := Lib.hid (HK7.out.trans hb); have hq := hb.blk HC7.out (by decide) hbc; obtain ⟨x0, x1, xz⟩ := case_cells hq; have HC8 := Lib.hid hq; clear hq; clear hB hb hx) | (go_at_call_of 84 (Value.string K1); refine (bw_string K1 HB8.out (by first | omega | ((repeat rw [List.length_append]); (repeat rw [size_len]); (repeat rw [List.length_singleton]); omega))).mono ?_; rintro e w9 ⟨rfl, hB, hb⟩; have hx := hb.blk HX8.out (by decide) hbx; obtain ⟨y0, y1, y2, y3, y4, y5, y6, yz⟩ := part_all hx; rw [hk4] at y0; have HX9 := Lib.hid hx; have HB9 := Lib.hid hB; have HK9 := Lib.hid (HK8.out.trans hb); have hq := hb.blk HC8.out (by decide) hbc; obtain ⟨x0, x1, xz⟩ := case_cells hq; have HC9 := Lib.hid hq; clear hq; clear hB hb hx) | (go_at_call 55; refine (HIH.out c.2 true S _ b _ B _ (HEW.out _ (HKW.out.trans (HKR.out.trans HK9.out))) hBb (HLC _ HK9.out) HS.out HB9.out hoc (by omega) (by first | omega | ((repeat rw [List.length_append]); (repeat rw [size_len]); (repeat rw [List.length_singleton]); omega))).mono ?_; rintro e wA ⟨rfl, hB, hb⟩; have hx := hb.blk HX9.out (by decide) hbx; obtain ⟨y0, y1, y2, y3, y4, y5, y6, yz⟩ := part_all hx; rw [hk4] at y0; have HXA := Lib.hid hx; have HBA := Lib.hid hB; have HKA := Lib.hid (HK9.out.trans hb); have hq := hb.blk HC9.out (by decide) hbc; obtain ⟨x0, x1, xz⟩ := case_cells hq; have HCA := Lib.hid hq; clear hq; clear hB hb hx) | (go_at_call_of 86 (Value.int .u8 125); refine (bw_byte 125 (by omega) (by omega) HBA.out (by first | omega | ((repeat rw [List.length_append]); (repeat rw [size_len]); (repeat rw [List.length_singleton]); omega))).mono ?_; rintro e wB ⟨rfl, hB, hb⟩; have hx := hb.blk HXA.out (by decide) hbx; obtain ⟨y0, y1, y2, y3, y4, y5, y6, yz⟩ := part_all hx; rw [hk4] at y0; have HXB := Lib.hid hx; have HBB := Lib.hid hB; have HKB := Lib.hid (HKA.out.trans hb); have hq := hb.blk HCA.out (by decide) hbc; obtain ⟨x0, x1, xz⟩ := case_cells hq; have HCB := Lib.hid hq; clear hq; clear hB hb hx))
                        go_roundw
                        case rel => exact ⟨j + 1, by omega, by go_num, by have hs := HSN.out; have gk := GK.out; rw [if_neg HJ.out] at hs; rw [hs]; have hz := HBB.out; rw [gk] at hz; simpa using hz, HKR.out.trans HKB.out, HXB.out⟩
                        case measure => simp [intOf]; omega
                    · obtain rfl : j = p.cs.length := by omega
                      rw [List.take_length] at hB
                      have HB7 := Lib.hid hB
                      have HX7 := Lib.hid hX
                      have HK7 := Lib.hid (BK2.refl b wr)
                      have HKR := Lib.hid hK
                      have hcl4 := caseW_lenO n true false p.cs HOC.out
                      clear hB hX hK
                      go_wp2_with ((go_at_call_of 86 (Value.int .u8 125); refine (bw_byte 125 (by omega) (by omega) HB7.out (by first | omega | ((repeat rw [List.length_append]); (repeat rw [size_len]); (repeat rw [List.length_singleton]); omega))).mono ?_; rintro e w8 ⟨rfl, hB, hb⟩; have hx := hb.blk HX7.out (by decide) hbx; obtain ⟨y0, y1, y2, y3, y4, y5, y6, yz⟩ := part_all hx; rw [hk4] at y0; have HX8 := Lib.hid hx; have HB8 := Lib.hid hB; have HK8 := Lib.hid (HK7.out.trans hb); clear hB hb hx))
                      go_roundw
                      case rel => exact ⟨k + 1, by omega, by go_num, HFIN.out _ (by have hz := HB8.out; rw [← HAD.out] at hz; simpa using hz) (HKW.out.trans (HKR.out.trans HK8.out))⟩
                      case measure => simp [intOf]; omega
                · rw [if_neg ho0] at HFIN
                  have HIT : Hid (∀ W, EnvM B W → Calls Tryz.prog 87 #[.int .i64 p.off] W fun e w' => e = .returned (.string ⟨(Lib.itoa p.off).toArray⟩) ∧ ∃ k os, w' = Go.Sort.grow (W.drewN k) os) := fun W hW => Tryz.strconv_Itoa p.off (by have := hop.1; omega) (by have := hop.2; omega) W hW.vars.pow
                  have hi1 : (⟨(Lib.itoa p.off).toArray⟩ : ByteArray).size ≤ 21 := by have := itoa_off hop; rw [toArr_size]; exact this
                  have hi2 : (⟨(Lib.itoa p.off).toArray⟩ : ByteArray).data.toList = Lib.itoa p.off := by simp
                  generalize (⟨(Lib.itoa p.off).toArray⟩ : ByteArray) = I1 at *
                  have qo : (⟨#[111, 102, 102, 115, 101, 116, 58]⟩ : ByteArray).size = 7 := rfl
                  have q3 : (⟨#[32]⟩ : ByteArray).size = 1 := rfl
                  obtain ⟨Y1, zy1, gy1, HY1⟩ := add_run ⟨#[111, 102, 102, 115, 101, 116, 58]⟩ I1 (by rw [qo]; omega)
                  obtain ⟨Y2, zy2, gy2, HY2⟩ := add_run Y1 ⟨#[32]⟩ (by rw [q3]; omega)
                  have gy : Y2.data.toList = offW ++ Lib.itoa p.off ++ [32] := by rw [gy2, gy1, hi2]; rfl
                  rw [← gy] at HFIN
                  have ho1 : (p.off == 0) = false := by simpa using ho0
                  clear gy1 gy2 gy hi2
                  go_wp2_with (first | (go_at_call_of 84 (Value.string X4); refine (bw_string X4 HB1.out (by first | omega | ((repeat rw [List.length_append]); (repeat rw [size_len]); (repeat rw [List.length_singleton]); omega))).mono ?_; rintro e w3 ⟨rfl, hB, hb⟩; have hx := hb.blk HX1.out (by decide) hbx; obtain ⟨y0, y1, y2, y3, y4, y5, y6, yz⟩ := part_all hx; rw [hk4] at y0; have HX3 := Lib.hid hx; have HB3 := Lib.hid hB; have HK3 := Lib.hid (HK1.out.trans hb); clear hB hb hx) | (go_at_call 87; refine (HIT.out _ (HEW.out _ (HKW.out.trans HK3.out))).mono ?_; rintro e w4 ⟨rfl, ki, osi, hw4⟩; have hki : Keep [] w3 w4 := (by rw [hw4]; exact Keep.of_below (below_itoa w3 ki osi)); have hx := HX3.out.keep hki (by simp); obtain ⟨y0, y1, y2, y3, y4, y5, y6, yz⟩ := part_all hx; rw [hk4] at y0; have HX4 := Lib.hid hx; have HB4 := Lib.hid (HB3.out.keep_nil hki); have HK4 := Lib.hid (HK3.out.keep hki (Nat.le_of_lt HB3.out.lt)); clear hw4 hki hx) | (go_at_call_of 84 (Value.string Y2); refine (bw_string Y2 HB4.out (by first | omega | ((repeat rw [List.length_append]); (repeat rw [size_len]); (repeat rw [List.length_singleton]); omega))).mono ?_; rintro e w5 ⟨rfl, hB, hb⟩; have hx := hb.blk HX4.out (by decide) hbx; obtain ⟨y0, y1, y2, y3, y4, y5, y6, yz⟩ := part_all hx; rw [hk4] at y0; have HX5 := Lib.hid hx; have HB5 := Lib.hid hB; have HK5 := Lib.hid (HK4.out.trans hb); clear hB hb hx))
                  have hadl : (ac ++ X4.data.toList ++ Y2.data.toList).length ≤ ac.length + 100 * (1 + p.nm.size) := by simp only [List.length_append, size_len]; omega
                  generalize had : ac ++ X4.data.toList ++ Y2.data.toList = ad at *
                  have HAD := Lib.hid had; clear had
                  go_loopw [87] (fun i wx => ∃ j : Nat, j ≤ p.cs.length ∧ i = .int .i64 j ∧ Bld b (ad ++ caseW (fun m => writeF n m true) false (p.cs.take j)) wx ∧ BK2 b wr wx ∧ Blk wx wr.heap.size 68 (p.cells (.slice Ac p.cs.length cc)).toArray) (fun i _ => p.cs.length - (intOf i).toNat)
                  case atStart => exact ⟨0, Nat.zero_le _, rfl, by simpa [caseW] using HB5.out, HK5.out, HX5.out⟩
                  case round =>
                    obtain ⟨j, hj, rfl, hB, hK, hX⟩ := hrel
                    obtain ⟨y0, y1, y2, y3, y4, y5, y6, yz⟩ := part_all hX
                    rw [hk4] at y0
                    by_cases hlt2 : j < p.cs.length
                    · obtain ⟨c, hc⟩ : ∃ c, p.cs[j]? = some c := ⟨_, List.getElem?_eq_getElem hlt2⟩
                      obtain ⟨A3, cap3, he, _, hcat⟩ := liesC_open (HCL.out.below hK.below HS.out)
                      injection he with he1 he2 he3
                      subst he1; subst he3
                      obtain ⟨b2, o2, pv, rfl, hb2, e1, e2, hL⟩ := hcat j c hc
                      obtain ⟨Ap, mp, kp, rfl⟩ := hL.form
                      have hsn := caseW_snoc (fun m => writeF n m true) p.cs j c hc
                      have HSN := Lib.hid hsn
                      have hoc := HOC.out c (List.mem_of_getElem? hc)
                      have hcl3 := caseW_take_len n true p.cs j c hc HOC.out
                      have hwc := allO_len n c.2 true hoc
                      have hbL2 := hB.lt
                      have hbc : wr.heap.size ≠ b := by omega
                      generalize hcj : caseW (fun m => writeF n m true) false (p.cs.take j) = cj at *
                      have hk6 : BK2 b wr (wr.alloc (.cells #[.string c.1, .slice Ap mp kp] 70)) := (BK2.refl b wr).alloc (by omega) _
                      have HB7 := Lib.hid (hB.alloc (.cells #[.string c.1, .slice Ap mp kp] 70))
                      have HX7 := Lib.hid (hk6.blk hX (by decide) hbx)
                      have HC7 : Hid (Blk (wr.alloc (.cells #[.string c.1, .slice Ap mp kp] 70)) wr.heap.size 70 #[.string c.1, .slice Ap mp kp]) := Blk.new _ _ _
                      have HK7 := Lib.hid hk6
                      have HKR := Lib.hid hK
                      have HLW := Lib.hid hL
                      have HLC : ∀ W, BK2 b wr W → Lies n S W (.slice Ap mp kp) c.2 := fun W hW => hL.below hW.below HS.out
                      obtain ⟨K1, zk, gk, HAK⟩ := add_run c.1 ⟨#[123]⟩ (by rw [q1]; omega)
                      have GK := Lib.hid gk
                      clear hcat hsn hB hK hX hL hk6 gk hc hcj
                      by_cases hj0 : j = 0
                      · have hj1 : ¬ ((0 : Int) < (j : Int)) := by omega
                        have HJ := Lib.hid hj0
                        clear hj0
                        go_wp2_with (first | (go_at_call_of 84 (Value.string K1); refine (bw_string K1 HB7.out (by first | omega | ((repeat rw [List.length_append]); (repeat rw [size_len]); (repeat rw [List.length_singleton]); omega))).mono ?_; rintro e w9 ⟨rfl, hB, hb⟩; have hx := hb.blk HX7.out (by decide) hbx; obtain ⟨y0, y1, y2, y3, y4, y5, y6, yz⟩ := part_all hx; rw [hk4] at y0; have HX9 := Lib.hid hx; have HB9 := Lib.hid hB; have HK9 := Lib.hid (HK7.out.trans hb); have hq := hb.blk HC7.out (by decide) hbc; obtain ⟨x0, x1, xz⟩ := case_cells hq; have HC9 := Lib.hid hq; clear hq; clear hB hb hx) | (go_at_call 55; refine (HIH.out c.2 true S _ b _ B _ (HEW.out _ (HKW.out.trans (HKR.out.trans HK9.out))) hBb (HLC _ HK9.out) HS.out HB9.out hoc (by omega) (by first | omega | ((repeat rw [List.length_append]); (repeat rw [size_len]); (repeat rw [List.length_singleton]); omega))).mono ?_; rintro e wA ⟨rfl, hB, hb⟩; have hx := hb.blk HX9.out (by decide) hbx; obtain ⟨y0, y1, y2, y3, y4, y5, y6, yz⟩ := part_all hx; rw [hk4] at y0; have HXA := Lib.hid hx; have HBA := Lib.hid hB; have HKA := Lib.hid (HK9.out.trans hb); have hq := hb.blk HC9.out (by decide) hbc; obtain ⟨x0, x1, xz⟩ := case_cells hq; have HCA := Lib.hid hq; clear hq; clear hB hb hx) | (go_at_call_of 86 (Value.int .u8 125); refine (bw_byte 125 (by omega) (by omega) HBA.out (by first | omega | ((repeat rw [List.length_append]); (repeat rw [size_len]); (repeat rw [List.length_singleton]); omega))).mono ?_; rintro e wB ⟨rfl, hB, hb⟩; have hx := hb.blk HXA.out (by decide) hbx; obtain ⟨y0, y1, y2, y3, y4, y5, y6, yz⟩ := part_all hx; rw [hk4] at y0; have HXB := Lib.hid hx; have HBB := Lib.hid hB; have HKB := Lib.hid (HKA.out.trans hb); have hq := hb.blk HCA.out (by decide) hbc; obtain ⟨x0, x1, xz⟩ := case_cells hq; have HCB := Lib.hid hq; clear hq; clear hB hb hx))
                        go_roundw
                        case rel => exact ⟨j + 1, by omega, by go_num, by have hs := HSN.out; have gk := GK.out; rw [if_pos HJ.out] at hs; rw [hs]; have hz := HBB.out; rw [gk] at hz; simpa using hz, HKR.out.trans HKB.out, HXB.out⟩
                        case measure => simp [intOf]; omega
                      · have hj1 : (0 : Int) < (j : Int) := by omega
                        have HJ := Lib.hid hj0
                        clear hj0
                        go_wp2_with (first | (go_at_call_of 86 (Value.int .u8 32); refine (bw_byte 32 (by omega) (by omega) HB7.out (by first | omega | ((repeat rw [List.length_append]); (repeat rw [size_len]); (repeat rw [List.length_singleton]); omega))).mono ?_; rintro e w8 ⟨rfl, hB, hb⟩; have hx := hb.blk HX7.out (by decide) hbx; obtain ⟨y0, y1, y2, y3, y4, y5, y6, yz⟩ := part_all hx; rw [hk4] at y0; have HX8 := Lib.hid hx; have HB8 := Lib.hid hB; have HK8 := Lib.hid (HK7.out.trans hb); have hq := hb.blk HC7.out (by decide) hbc; obtain ⟨x0, x1, xz⟩ := case_cells hq; have HC8 := Lib.hid hq; clear hq; clear hB hb hx) | (go_at_call_of 84 (Value.string K1); refine (bw_string K1 HB8.out (by first | omega | ((repeat rw [List.length_append]); (repeat rw [size_len]); (repeat rw [List.length_singleton]); omega))).mono ?_; rintro e w9 ⟨rfl, hB, hb⟩; have hx := hb.blk HX8.out (by decide) hbx; obtain ⟨y0, y1, y2, y3, y4, y5, y6, yz⟩ := part_all hx; rw [hk4] at y0; have HX9 := Lib.hid hx; have HB9 := Lib.hid hB; have HK9 := Lib.hid (HK8.out.trans hb); have hq := hb.blk HC8.out (by decide) hbc; obtain ⟨x0, x1, xz⟩ := case_cells hq; have HC9 := Lib.hid hq; clear hq; clear hB hb hx) | (go_at_call 55; refine (HIH.out c.2 true S _ b _ B _ (HEW.out _ (HKW.out.trans (HKR.out.trans HK9.out))) hBb (HLC _ HK9.out) HS.out HB9.out hoc (by omega) (by first | omega | ((repeat rw [List.length_append]); (repeat rw [size_len]); (repeat rw [List.length_singleton]); omega))).mono ?_; rintro e wA ⟨rfl, hB, hb⟩; have hx := hb.blk HX9.out (by decide) hbx; obtain ⟨y0, y1, y2, y3, y4, y5, y6, yz⟩ := part_all hx; rw [hk4] at y0; have HXA := Lib.hid hx; have HBA := Lib.hid hB; have HKA := Lib.hid (HK9.out.trans hb); have hq := hb.blk HC9.out (by decide) hbc; obtain ⟨x0, x1, xz⟩ := case_cells hq; have HCA := Lib.hid hq; clear hq; clear hB hb hx) | (go_at_call_of 86 (Value.int .u8 125); refine (bw_byte 125 (by omega) (by omega) HBA.out (by first | omega | ((repeat rw [List.length_append]); (repeat rw [size_len]); (repeat rw [List.length_singleton]); omega))).mono ?_; rintro e wB ⟨rfl, hB, hb⟩; have hx := hb.blk HXA.out (by decide) hbx; obtain ⟨y0, y1, y2, y3, y4, y5, y6, yz⟩ := part_all hx; rw [hk4] at y0; have HXB := Lib.hid hx; have HBB := Lib.hid hB; have HKB := Lib.hid (HKA.out.trans hb); have hq := hb.blk HCA.out (by decide) hbc; obtain ⟨x0, x1, xz⟩ := case_cells hq; have HCB := Lib.hid hq; clear hq; clear hB hb hx))
                        go_roundw
                        case rel => exact ⟨j + 1, by omega, by go_num, by have hs := HSN.out; have gk := GK.out; rw [if_neg HJ.out] at hs; rw [hs]; have hz := HBB.out; rw [gk] at hz; simpa using hz, HKR.out.trans HKB.out, HXB.out⟩
                        case measure => simp [intOf]; omega
                    · obtain rfl : j = p.cs.length := by omega
                      rw [List.take_length] at hB
                      have HB7 := Lib.hid hB
                      have HX7 := Lib.hid hX
                      have HK7 := Lib.hid (BK2.refl b wr)
                      have HKR := Lib.hid hK
                      have hcl4 := caseW_lenO n true false p.cs HOC.out
                      clear hB hX hK
                      go_wp2_with ((go_at_call_of 86 (Value.int .u8 125); refine (bw_byte 125 (by omega) (by omega) HB7.out (by first | omega | ((repeat rw [List.length_append]); (repeat rw [size_len]); (repeat rw [List.length_singleton]); omega))).mono ?_; rintro e w8 ⟨rfl, hB, hb⟩; have hx := hb.blk HX7.out (by decide) hbx; obtain ⟨y0, y1, y2, y3, y4, y5, y6, yz⟩ := part_all hx; rw [hk4] at y0; have HX8 := Lib.hid hx; have HB8 := Lib.hid hB; have HK8 := Lib.hid (HK7.out.trans hb); clear hB hb hx))
                      go_roundw
                      case rel => exact ⟨k + 1, by omega, by go_num, HFIN.out _ (by have hz := HB8.out; rw [← HAD.out] at hz; simpa using hz) (HKW.out.trans (HKR.out.trans HK8.out))⟩
                      case measure => simp [intOf]; omega
            · have hpw : partW (writeF n) h p = [] := by unfold partW; rw [if_neg hk1, if_neg hk2, if_neg hk3, if_neg hk4]
              rw [hpw] at HFIN
              have k4 : (p.k == 4) = false := by simp; omega
              have k5 : (p.k == 5) = false := by simp; omega
              have k6 : (p.k == 6) = false := by simp; omega
              clear hpw hk4 hk1 hk2 hk3
              go_wp2
              go_roundw
              case rel => exact ⟨k + 1, by omega, by go_num, HFIN.out _ (by simpa using HB1.out) HK1.out⟩
              case measure => simp [intOf]; omega
    · obtain rfl : k = l.length := by omega
      go_wp2
      go_end0
      have hB := HBr.out
      rw [List.take_length, HOUT.out] at hB
      exact ⟨rfl, hB, HK.out⟩
/-- write is right at every depth. -/
theorem write_any : ∀ n, WriteC n
  | 0 => fun _ _ _ _ _ _ _ _ _ _ h => h.elim
  | n + 1 => write_step n (write_any n)
end Go.Proofs.YtmfoiceofhcicaaGreatDoor

namespace Go.Proofs.YtmfoiceofhcicaaGreatDoor
open Go.RowKit

/-- What holds of the memory throughout the test of type and style. -/
def PlS (w : World) (n : Nat) (c d : Array Value) (W : World) : Prop := Keep [] w W ∧ Blk W n 68 c ∧ Blk W (n + 1) 68 d
theorem PlS.step {w W W' : World} {n : Nat} {c d : Array Value} (h : PlS w n c d W) (hk : Keep [] W W') : PlS w n c d W' :=
  ⟨h.1.nil hk, h.2.1.keep hk (by simp), h.2.2.keep hk (by simp)⟩
theorem PlS.two {w W : World} {n : Nat} {a0 a1 a2 a3 a4 a5 a6 : Value} {d : Array Value} (h : PlS w n #[a0, a1, a2, a3, a4, a5, a6] d W) : True ∧ W.cell? ⟨n, 3, none⟩ = some a3 ∧ W.cell? ⟨n, 4, none⟩ = some a4 :=
  ⟨trivial, h.2.1.cell_eq rfl, h.2.1.cell_eq rfl⟩
theorem boxes3 {w : World} {n : Nat} {c d : Array Value} (hn : w.heap.size = n) : Keep [] w ((w.alloc (.cells c 68)).alloc (.cells d 68)) ∧ Blk ((w.alloc (.cells c 68)).alloc (.cells d 68)) n 68 c ∧ Blk ((w.alloc (.cells c 68)).alloc (.cells d 68)) (n + 1) 68 d :=
  ⟨((Keep.refl [] w).alloc _).alloc _, boxes hn (Keep.refl [] _)⟩
/-- wpAnyH_take, the slot being named. -/
theorem take_at {P : Program} {md : Region.Mode} {ops : Array Oper} {Q : Exit → Act → World → Prop} {S : World → Prop} {i d : Nat} {oi : Oper} {v : Value} {fuel : Nat} {listed : Array Bool} {a : Act} {w : World} (hi : ops[i]? = some oi) (hd : oi.dst = some d)
    (hs : Region.noSelect ops = true) (hf : Region.free md ops listed i = true) (hr : (Region.ready md ops listed).contains i = true)
    (hQ : ∀ c a w, Q (.panic c) (a.put oi.dst v) w → Q (.panic c) a w) (hy : YieldsIf P ops S oi v a) (hS : S w)
    (h : wpAnyH P md ops Q S fuel (listed.setIfInBounds i true) (a.put (some d) v) w) : wpAnyH P md ops Q S (fuel + 1) listed a w :=
  wpAnyH_take hi hs hf hr hQ hy hS (hd ▸ h)
set_option maxRecDepth 100000 in
set_option maxHeartbeats 4000000 in
/-- plain, at an argument with a type. -/
theorem plain_3t {B : Nat} (p : PT) (h : Bool) (A : Option Addr) (c : Nat) (w : World) (hE : EnvM B w) (hk : p.k = 3) (h3 : p.ty.size ≠ 0) (hs : p.nm.size ≤ 1000000000) (hst : p.st.size ≤ 1000000000) :
    Calls Tryz.prog 80 #[.agg #[.int .i64 p.k, .string p.tx, .string p.nm, .string p.ty, .string p.st, .int .i64 p.off, .slice A p.cs.length c], .bool h] w fun e w' => e = .returned (.bool (plainB p h)) ∧ Keep [] w w' := by
  have hcs : ((p.cs.length : Int) == 0) = decide (p.cs.length = 0) := by rw [Bool.eq_iff_iff]; simp
  have ho : (p.off == 0) = decide (p.off = 0) := by rw [Bool.eq_iff_iff]; simp
  have h3e : p.ty.toList.isEmpty = false := not_empty h3
  have HKK : Hid (plainB p h = (memW typesW p.ty && (p.st.toList.isEmpty || isStyleB p.st) && isNameB p.nm && ((p.cs.length : Int) == 0) && p.tx.toList.isEmpty && (p.off == 0))) := by
    unfold Hid plainB
    rw [if_neg (by omega), if_neg (by omega), if_pos hk, ← emp', ← emp', ← emp', hcs, ho, h3e]
    simp
  have HN : ∀ W, Hid (Calls Tryz.prog 101 #[.string p.nm] W fun e w' => e = .returned (.bool (isNameB p.nm)) ∧ W = w') := fun W => isName_any p.nm W (by omega)
  have HS : ∀ W, Hid (Calls Tryz.prog 100 #[.string p.st] W fun e w' => e = .returned (.bool (isStyleB p.st)) ∧ Keep [] W w') := fun W => isStyle_any p.st W hst
  have h3n : ¬ p.ty.toList = [] := by intro h; rw [h] at h3e; cases h3e
  have HE := Lib.hid hE
  rw [hk]
  clear hcs ho hk hE h3 h3e hst
  generalize isNameB p.nm = qn at *
  generalize isStyleB p.st = qs at *
  obtain ⟨n, hn⟩ : ∃ n, w.heap.size = n := ⟨_, rfl⟩
  have hEA : ∀ W, Keep [] w W → EnvM B W := fun W hW => HE.out.keep hW (by simp)
  have HEA := Lib.hid hEA
  clear hEA
  have HC : ∀ (W : World) (n : Nat), W.heap.size = n → Hid (Calls Tryz.prog 98 #[.slice (some ⟨n, 0, none⟩) 7 7, .string p.ty] (W.alloc (.cells (typesW.map Value.string).toArray 9)) fun e w' => e = .returned (.bool (memW typesW p.ty)) ∧ w' = (W.alloc (.cells (typesW.map Value.string).toArray 9))) := fun W n hn => types_any W n hn p.ty
  cases hm : memW typesW p.ty
  · rw [hm] at HKK HC
    clear HN HS
    go_enter Tryz.func80, Tryz.ntmps80
    go_upto_region 13 with fail
    obtain ⟨hK0, hP, hQ⟩ := boxes3 hn
    generalize (w.alloc (.cells #[.int .i64 3, .string p.tx, .string p.nm, .string p.ty, .string p.st, .int .i64 p.off, .slice A p.cs.length c] 68)).alloc (.cells #[.int .i64 0, .string p.tx, .string p.nm, .string p.ty, .string p.st, .int .i64 p.off, .slice none 0 0] 68) = W0 at *
    refine wp_region_held_drew (S := PlS w n #[.int .i64 3, .string p.tx, .string p.nm, .string p.ty, .string p.st, .int .i64 p.off, .slice A p.cs.length c] #[.int .i64 0, .string p.tx, .string p.nm, .string p.ty, .string p.st, .int .i64 p.off, .slice none 0 0]) (by kernel_rfl) ⟨hK0.drew, hP.keep ((Keep.refl [] _).drew) (by simp), hQ.keep ((Keep.refl [] _).drew) (by simp)⟩ (fun hHeld => ?_)
    clear hP hQ hK0
    generalize W0.drew = W1 at *
    refine take_at (i := 0) (d := 30) (v := .pointer (some ⟨n, 3, none⟩)) rfl (by kernel_rfl) (by kernel_rfl) (by kernel_rfl) (by kernel_rfl) (fun _ _ _ h => h) (Or.inl ⟨by rfl, ?_⟩) (by assumption) ?_
    · intro W hW; obtain ⟨_, c3, c4⟩ := hW.two; go_simp
    try simp only [Act.put, List.setIfInBounds_toArray, List.set_cons_zero, List.set_cons_succ]
    refine take_at (i := 1) (d := 31) (v := .string p.ty) rfl (by kernel_rfl) (by kernel_rfl) (by kernel_rfl) (by kernel_rfl) (fun _ _ _ h => h) (Or.inl ⟨by rfl, ?_⟩) (by assumption) ?_
    · intro W hW; obtain ⟨_, c3, c4⟩ := hW.two; go_simp
    try simp only [Act.put, List.setIfInBounds_toArray, List.set_cons_zero, List.set_cons_succ]
    refine take_at (i := 2) (d := 32) (v := .bool true) rfl (by kernel_rfl) (by kernel_rfl) (by kernel_rfl) (by kernel_rfl) (fun _ _ _ h => h) (Or.inl ⟨by rfl, ?_⟩) (by assumption) ?_
    · intro W hW; obtain ⟨_, c3, c4⟩ := hW.two; go_simp
    try simp only [Act.put, List.setIfInBounds_toArray, List.set_cons_zero, List.set_cons_succ]
    refine take_at (i := 3) (d := 33) (v := .bool true) rfl (by kernel_rfl) (by kernel_rfl) (by kernel_rfl) (by kernel_rfl) (fun _ _ _ h => h) (Or.inl ⟨by rfl, ?_⟩) (by assumption) ?_
    · intro W hW; obtain ⟨_, c3, c4⟩ := hW.two; go_simp
    try simp only [Act.put, List.setIfInBounds_toArray, List.set_cons_zero, List.set_cons_succ]
    refine take_at (i := 5) (d := 35) (v := .pointer (some ⟨n, 3, none⟩)) rfl (by kernel_rfl) (by kernel_rfl) (by kernel_rfl) (by kernel_rfl) (fun _ _ _ h => h) (Or.inl ⟨by rfl, ?_⟩) (by assumption) ?_
    · intro W hW; obtain ⟨_, c3, c4⟩ := hW.two; go_simp
    try simp only [Act.put, List.setIfInBounds_toArray, List.set_cons_zero, List.set_cons_succ]
    refine take_at (i := 6) (d := 36) (v := .string p.ty) rfl (by kernel_rfl) (by kernel_rfl) (by kernel_rfl) (by kernel_rfl) (fun _ _ _ h => h) (Or.inl ⟨by rfl, ?_⟩) (by assumption) ?_
    · intro W hW; obtain ⟨_, c3, c4⟩ := hW.two; go_simp
    try simp only [Act.put, List.setIfInBounds_toArray, List.set_cons_zero, List.set_cons_succ]
    refine wpAnyH_ready (rs := [4]) (by kernel_rfl) (by simp) ?_
    refine AllReadyH.cons rfl (fun K hK => ?_) AllReadyH.nil
    go_simp
    refine (typef_any (B := B) _ (HEA.out _ hHeld.1)).mono ?_
    rintro x w3 ⟨rfl, rfl⟩
    refine hK.out _ _ (hHeld.step ((Keep.refl [] _).alloc _)) (fun hHeld => ?_)
    clear hK K
    try simp only [Act.put, List.setIfInBounds_toArray, List.set_cons_zero, List.set_cons_succ]
    refine wpAnyH_ready (rs := [7]) (by kernel_rfl) (by simp) ?_
    refine AllReadyH.cons rfl (fun K hK => ?_) AllReadyH.nil
    go_simp
    refine (HC _ _ rfl).out.mono ?_
    rintro x w4 ⟨rfl, rfl⟩
    refine hK.out _ _ hHeld (fun hHeld => ?_)
    clear hK K
    try simp only [Act.put, List.setIfInBounds_toArray, List.set_cons_zero, List.set_cons_succ]
    refine take_at (i := 8) (d := 38) (v := .bool true) rfl (by kernel_rfl) (by kernel_rfl) (by kernel_rfl) (by kernel_rfl) (fun _ _ _ h => h) (Or.inl ⟨by rfl, ?_⟩) (by assumption) ?_
    · intro W hW; obtain ⟨_, c3, c4⟩ := hW.two; go_simp
    try simp only [Act.put, List.setIfInBounds_toArray, List.set_cons_zero, List.set_cons_succ]
    refine take_at (i := 9) (d := 39) (v := .bool true) rfl (by kernel_rfl) (by kernel_rfl) (by kernel_rfl) (by kernel_rfl) (fun _ _ _ h => h) (Or.inl ⟨by rfl, ?_⟩) (by assumption) ?_
    · intro W hW; obtain ⟨_, c3, c4⟩ := hW.two; go_simp
    try simp only [Act.put, List.setIfInBounds_toArray, List.set_cons_zero, List.set_cons_succ]
    refine take_at (i := 10) (d := 40) (v := .bool true) rfl (by kernel_rfl) (by kernel_rfl) (by kernel_rfl) (by kernel_rfl) (fun _ _ _ h => h) (Or.inl ⟨by rfl, ?_⟩) (by assumption) ?_
    · intro W hW; obtain ⟨_, c3, c4⟩ := hW.two; go_simp
    try simp only [Act.put, List.setIfInBounds_toArray, List.set_cons_zero, List.set_cons_succ]
    refine take_at (i := 11) (d := 41) (v := undef) rfl (by kernel_rfl) (by kernel_rfl) (by kernel_rfl) (by kernel_rfl) (fun _ _ _ h => h) (Or.inr ⟨by kernel_rfl, rfl⟩) (by assumption) ?_
    try simp only [Act.put, List.setIfInBounds_toArray, List.set_cons_zero, List.set_cons_succ]
    refine take_at (i := 12) (d := 42) (v := undef) rfl (by kernel_rfl) (by kernel_rfl) (by kernel_rfl) (by kernel_rfl) (fun _ _ _ h => h) (Or.inr ⟨by kernel_rfl, rfl⟩) (by assumption) ?_
    try simp only [Act.put, List.setIfInBounds_toArray, List.set_cons_zero, List.set_cons_succ]
    refine take_at (i := 13) (d := 43) (v := undef) rfl (by kernel_rfl) (by kernel_rfl) (by kernel_rfl) (by kernel_rfl) (fun _ _ _ h => h) (Or.inr ⟨by kernel_rfl, rfl⟩) (by assumption) ?_
    try simp only [Act.put, List.setIfInBounds_toArray, List.set_cons_zero, List.set_cons_succ]
    refine take_at (i := 14) (d := 44) (v := undef) rfl (by kernel_rfl) (by kernel_rfl) (by kernel_rfl) (by kernel_rfl) (fun _ _ _ h => h) (Or.inr ⟨by kernel_rfl, rfl⟩) (by assumption) ?_
    try simp only [Act.put, List.setIfInBounds_toArray, List.set_cons_zero, List.set_cons_succ]
    refine take_at (i := 15) (d := 45) (v := undef) rfl (by kernel_rfl) (by kernel_rfl) (by kernel_rfl) (by kernel_rfl) (fun _ _ _ h => h) (Or.inr ⟨by kernel_rfl, rfl⟩) (by assumption) ?_
    try simp only [Act.put, List.setIfInBounds_toArray, List.set_cons_zero, List.set_cons_succ]
    refine take_at (i := 16) (d := 46) (v := undef) rfl (by kernel_rfl) (by kernel_rfl) (by kernel_rfl) (by kernel_rfl) (fun _ _ _ h => h) (Or.inr ⟨by kernel_rfl, rfl⟩) (by assumption) ?_
    try simp only [Act.put, List.setIfInBounds_toArray, List.set_cons_zero, List.set_cons_succ]
    refine take_at (i := 17) (d := 47) (v := undef) rfl (by kernel_rfl) (by kernel_rfl) (by kernel_rfl) (by kernel_rfl) (fun _ _ _ h => h) (Or.inr ⟨by kernel_rfl, rfl⟩) (by assumption) ?_
    try simp only [Act.put, List.setIfInBounds_toArray, List.set_cons_zero, List.set_cons_succ]
    refine take_at (i := 18) (d := 48) (v := undef) rfl (by kernel_rfl) (by kernel_rfl) (by kernel_rfl) (by kernel_rfl) (fun _ _ _ h => h) (Or.inr ⟨by kernel_rfl, rfl⟩) (by assumption) ?_
    try simp only [Act.put, List.setIfInBounds_toArray, List.set_cons_zero, List.set_cons_succ]
    refine take_at (i := 19) (d := 49) (v := undef) rfl (by kernel_rfl) (by kernel_rfl) (by kernel_rfl) (by kernel_rfl) (fun _ _ _ h => h) (Or.inr ⟨by kernel_rfl, rfl⟩) (by assumption) ?_
    try simp only [Act.put, List.setIfInBounds_toArray, List.set_cons_zero, List.set_cons_succ]
    refine take_at (i := 20) (d := 50) (v := undef) rfl (by kernel_rfl) (by kernel_rfl) (by kernel_rfl) (by kernel_rfl) (fun _ _ _ h => h) (Or.inr ⟨by kernel_rfl, rfl⟩) (by assumption) ?_
    try simp only [Act.put, List.setIfInBounds_toArray, List.set_cons_zero, List.set_cons_succ]
    refine take_at (i := 21) (d := 51) (v := undef) rfl (by kernel_rfl) (by kernel_rfl) (by kernel_rfl) (by kernel_rfl) (fun _ _ _ h => h) (Or.inr ⟨by kernel_rfl, rfl⟩) (by assumption) ?_
    try simp only [Act.put, List.setIfInBounds_toArray, List.set_cons_zero, List.set_cons_succ]
    refine take_at (i := 22) (d := 52) (v := undef) rfl (by kernel_rfl) (by kernel_rfl) (by kernel_rfl) (by kernel_rfl) (fun _ _ _ h => h) (Or.inr ⟨by kernel_rfl, rfl⟩) (by assumption) ?_
    try simp only [Act.put, List.setIfInBounds_toArray, List.set_cons_zero, List.set_cons_succ]
    refine take_at (i := 23) (d := 53) (v := undef) rfl (by kernel_rfl) (by kernel_rfl) (by kernel_rfl) (by kernel_rfl) (fun _ _ _ h => h) (Or.inr ⟨by kernel_rfl, rfl⟩) (by assumption) ?_
    try simp only [Act.put, List.setIfInBounds_toArray, List.set_cons_zero, List.set_cons_succ]
    refine take_at (i := 24) (d := 54) (v := undef) rfl (by kernel_rfl) (by kernel_rfl) (by kernel_rfl) (by kernel_rfl) (fun _ _ _ h => h) (Or.inr ⟨by kernel_rfl, rfl⟩) (by assumption) ?_
    try simp only [Act.put, List.setIfInBounds_toArray, List.set_cons_zero, List.set_cons_succ]
    refine take_at (i := 25) (d := 55) (v := .bool true) rfl (by kernel_rfl) (by kernel_rfl) (by kernel_rfl) (by kernel_rfl) (fun _ _ _ h => h) (Or.inl ⟨by rfl, ?_⟩) (by assumption) ?_
    · intro W hW; obtain ⟨_, c3, c4⟩ := hW.two; go_simp
    try simp only [Act.put, List.setIfInBounds_toArray, List.set_cons_zero, List.set_cons_succ]
    refine wpAnyH_done (by kernel_rfl) ?_ _
    have HH := Lib.hid hHeld
    clear hHeld
    go_wp2
    go_ret
    exact ⟨by rw [HKK.out]; simp, HH.out.1⟩
  · rw [hm] at HKK HC
    cases h4 : p.st.toList.isEmpty
    · rw [h4] at HKK
      have h4n : ¬ p.st.toList = [] := by intro h; rw [h] at h4; cases h4
      cases qs
      · clear HN
        go_enter Tryz.func80, Tryz.ntmps80
        go_upto_region 13 with fail
        obtain ⟨hK0, hP, hQ⟩ := boxes3 hn
        generalize (w.alloc (.cells #[.int .i64 3, .string p.tx, .string p.nm, .string p.ty, .string p.st, .int .i64 p.off, .slice A p.cs.length c] 68)).alloc (.cells #[.int .i64 0, .string p.tx, .string p.nm, .string p.ty, .string p.st, .int .i64 p.off, .slice none 0 0] 68) = W0 at *
        refine wp_region_held_drew (S := PlS w n #[.int .i64 3, .string p.tx, .string p.nm, .string p.ty, .string p.st, .int .i64 p.off, .slice A p.cs.length c] #[.int .i64 0, .string p.tx, .string p.nm, .string p.ty, .string p.st, .int .i64 p.off, .slice none 0 0]) (by kernel_rfl) ⟨hK0.drew, hP.keep ((Keep.refl [] _).drew) (by simp), hQ.keep ((Keep.refl [] _).drew) (by simp)⟩ (fun hHeld => ?_)
        clear hP hQ hK0
        generalize W0.drew = W1 at *
        refine take_at (i := 0) (d := 30) (v := .pointer (some ⟨n, 3, none⟩)) rfl (by kernel_rfl) (by kernel_rfl) (by kernel_rfl) (by kernel_rfl) (fun _ _ _ h => h) (Or.inl ⟨by rfl, ?_⟩) (by assumption) ?_
        · intro W hW; obtain ⟨_, c3, c4⟩ := hW.two; go_simp
        try simp only [Act.put, List.setIfInBounds_toArray, List.set_cons_zero, List.set_cons_succ]
        refine take_at (i := 1) (d := 31) (v := .string p.ty) rfl (by kernel_rfl) (by kernel_rfl) (by kernel_rfl) (by kernel_rfl) (fun _ _ _ h => h) (Or.inl ⟨by rfl, ?_⟩) (by assumption) ?_
        · intro W hW; obtain ⟨_, c3, c4⟩ := hW.two; go_simp
        try simp only [Act.put, List.setIfInBounds_toArray, List.set_cons_zero, List.set_cons_succ]
        refine take_at (i := 2) (d := 32) (v := .bool true) rfl (by kernel_rfl) (by kernel_rfl) (by kernel_rfl) (by kernel_rfl) (fun _ _ _ h => h) (Or.inl ⟨by rfl, ?_⟩) (by assumption) ?_
        · intro W hW; obtain ⟨_, c3, c4⟩ := hW.two; go_simp
        try simp only [Act.put, List.setIfInBounds_toArray, List.set_cons_zero, List.set_cons_succ]
        refine take_at (i := 3) (d := 33) (v := .bool true) rfl (by kernel_rfl) (by kernel_rfl) (by kernel_rfl) (by kernel_rfl) (fun _ _ _ h => h) (Or.inl ⟨by rfl, ?_⟩) (by assumption) ?_
        · intro W hW; obtain ⟨_, c3, c4⟩ := hW.two; go_simp
        try simp only [Act.put, List.setIfInBounds_toArray, List.set_cons_zero, List.set_cons_succ]
        refine take_at (i := 5) (d := 35) (v := .pointer (some ⟨n, 3, none⟩)) rfl (by kernel_rfl) (by kernel_rfl) (by kernel_rfl) (by kernel_rfl) (fun _ _ _ h => h) (Or.inl ⟨by rfl, ?_⟩) (by assumption) ?_
        · intro W hW; obtain ⟨_, c3, c4⟩ := hW.two; go_simp
        try simp only [Act.put, List.setIfInBounds_toArray, List.set_cons_zero, List.set_cons_succ]
        refine take_at (i := 6) (d := 36) (v := .string p.ty) rfl (by kernel_rfl) (by kernel_rfl) (by kernel_rfl) (by kernel_rfl) (fun _ _ _ h => h) (Or.inl ⟨by rfl, ?_⟩) (by assumption) ?_
        · intro W hW; obtain ⟨_, c3, c4⟩ := hW.two; go_simp
        try simp only [Act.put, List.setIfInBounds_toArray, List.set_cons_zero, List.set_cons_succ]
        refine wpAnyH_ready (rs := [4]) (by kernel_rfl) (by simp) ?_
        refine AllReadyH.cons rfl (fun K hK => ?_) AllReadyH.nil
        go_simp
        refine (typef_any (B := B) _ (HEA.out _ hHeld.1)).mono ?_
        rintro x w3 ⟨rfl, rfl⟩
        refine hK.out _ _ (hHeld.step ((Keep.refl [] _).alloc _)) (fun hHeld => ?_)
        clear hK K
        try simp only [Act.put, List.setIfInBounds_toArray, List.set_cons_zero, List.set_cons_succ]
        refine wpAnyH_ready (rs := [7]) (by kernel_rfl) (by simp) ?_
        refine AllReadyH.cons rfl (fun K hK => ?_) AllReadyH.nil
        go_simp
        refine (HC _ _ rfl).out.mono ?_
        rintro x w4 ⟨rfl, rfl⟩
        refine hK.out _ _ hHeld (fun hHeld => ?_)
        clear hK K
        try simp only [Act.put, List.setIfInBounds_toArray, List.set_cons_zero, List.set_cons_succ]
        refine take_at (i := 8) (d := 38) (v := .bool false) rfl (by kernel_rfl) (by kernel_rfl) (by kernel_rfl) (by kernel_rfl) (fun _ _ _ h => h) (Or.inl ⟨by rfl, ?_⟩) (by assumption) ?_
        · intro W hW; obtain ⟨_, c3, c4⟩ := hW.two; go_simp
        try simp only [Act.put, List.setIfInBounds_toArray, List.set_cons_zero, List.set_cons_succ]
        refine take_at (i := 9) (d := 39) (v := .bool false) rfl (by kernel_rfl) (by kernel_rfl) (by kernel_rfl) (by kernel_rfl) (fun _ _ _ h => h) (Or.inl ⟨by rfl, ?_⟩) (by assumption) ?_
        · intro W hW; obtain ⟨_, c3, c4⟩ := hW.two; go_simp
        try simp only [Act.put, List.setIfInBounds_toArray, List.set_cons_zero, List.set_cons_succ]
        refine take_at (i := 10) (d := 40) (v := .bool false) rfl (by kernel_rfl) (by kernel_rfl) (by kernel_rfl) (by kernel_rfl) (fun _ _ _ h => h) (Or.inl ⟨by rfl, ?_⟩) (by assumption) ?_
        · intro W hW; obtain ⟨_, c3, c4⟩ := hW.two; go_simp
        try simp only [Act.put, List.setIfInBounds_toArray, List.set_cons_zero, List.set_cons_succ]
        refine take_at (i := 11) (d := 41) (v := .pointer (some ⟨n, 4, none⟩)) rfl (by kernel_rfl) (by kernel_rfl) (by kernel_rfl) (by kernel_rfl) (fun _ _ _ h => h) (Or.inl ⟨by rfl, ?_⟩) (by assumption) ?_
        · intro W hW; obtain ⟨_, c3, c4⟩ := hW.two; go_simp
        try simp only [Act.put, List.setIfInBounds_toArray, List.set_cons_zero, List.set_cons_succ]
        refine take_at (i := 12) (d := 42) (v := .string p.st) rfl (by kernel_rfl) (by kernel_rfl) (by kernel_rfl) (by kernel_rfl) (fun _ _ _ h => h) (Or.inl ⟨by rfl, ?_⟩) (by assumption) ?_
        · intro W hW; obtain ⟨_, c3, c4⟩ := hW.two; go_simp
        try simp only [Act.put, List.setIfInBounds_toArray, List.set_cons_zero, List.set_cons_succ]
        refine take_at (i := 13) (d := 43) (v := .bool true) rfl (by kernel_rfl) (by kernel_rfl) (by kernel_rfl) (by kernel_rfl) (fun _ _ _ h => h) (Or.inl ⟨by rfl, ?_⟩) (by assumption) ?_
        · intro W hW; obtain ⟨_, c3, c4⟩ := hW.two; go_simp
        try simp only [Act.put, List.setIfInBounds_toArray, List.set_cons_zero, List.set_cons_succ]
        refine take_at (i := 14) (d := 44) (v := .bool true) rfl (by kernel_rfl) (by kernel_rfl) (by kernel_rfl) (by kernel_rfl) (fun _ _ _ h => h) (Or.inl ⟨by rfl, ?_⟩) (by assumption) ?_
        · intro W hW; obtain ⟨_, c3, c4⟩ := hW.two; go_simp
        try simp only [Act.put, List.setIfInBounds_toArray, List.set_cons_zero, List.set_cons_succ]
        refine take_at (i := 15) (d := 45) (v := .pointer (some ⟨n, 3, none⟩)) rfl (by kernel_rfl) (by kernel_rfl) (by kernel_rfl) (by kernel_rfl) (fun _ _ _ h => h) (Or.inl ⟨by rfl, ?_⟩) (by assumption) ?_
        · intro W hW; obtain ⟨_, c3, c4⟩ := hW.two; go_simp
        try simp only [Act.put, List.setIfInBounds_toArray, List.set_cons_zero, List.set_cons_succ]
        refine take_at (i := 16) (d := 46) (v := .string p.ty) rfl (by kernel_rfl) (by kernel_rfl) (by kernel_rfl) (by kernel_rfl) (fun _ _ _ h => h) (Or.inl ⟨by rfl, ?_⟩) (by assumption) ?_
        · intro W hW; obtain ⟨_, c3, c4⟩ := hW.two; go_simp
        try simp only [Act.put, List.setIfInBounds_toArray, List.set_cons_zero, List.set_cons_succ]
        refine take_at (i := 17) (d := 47) (v := .bool false) rfl (by kernel_rfl) (by kernel_rfl) (by kernel_rfl) (by kernel_rfl) (fun _ _ _ h => h) (Or.inl ⟨by rfl, ?_⟩) (by assumption) ?_
        · intro W hW; obtain ⟨_, c3, c4⟩ := hW.two; go_simp
        try simp only [Act.put, List.setIfInBounds_toArray, List.set_cons_zero, List.set_cons_succ]
        refine take_at (i := 18) (d := 48) (v := .bool false) rfl (by kernel_rfl) (by kernel_rfl) (by kernel_rfl) (by kernel_rfl) (fun _ _ _ h => h) (Or.inl ⟨by rfl, ?_⟩) (by assumption) ?_
        · intro W hW; obtain ⟨_, c3, c4⟩ := hW.two; go_simp
        try simp only [Act.put, List.setIfInBounds_toArray, List.set_cons_zero, List.set_cons_succ]
        refine take_at (i := 19) (d := 49) (v := .pointer (some ⟨n, 4, none⟩)) rfl (by kernel_rfl) (by kernel_rfl) (by kernel_rfl) (by kernel_rfl) (fun _ _ _ h => h) (Or.inl ⟨by rfl, ?_⟩) (by assumption) ?_
        · intro W hW; obtain ⟨_, c3, c4⟩ := hW.two; go_simp
        try simp only [Act.put, List.setIfInBounds_toArray, List.set_cons_zero, List.set_cons_succ]
        refine take_at (i := 20) (d := 50) (v := .string p.st) rfl (by kernel_rfl) (by kernel_rfl) (by kernel_rfl) (by kernel_rfl) (fun _ _ _ h => h) (Or.inl ⟨by rfl, ?_⟩) (by assumption) ?_
        · intro W hW; obtain ⟨_, c3, c4⟩ := hW.two; go_simp
        try simp only [Act.put, List.setIfInBounds_toArray, List.set_cons_zero, List.set_cons_succ]
        refine wpAnyH_ready (rs := [21]) (by kernel_rfl) (by simp) ?_
        refine AllReadyH.cons rfl (fun K hK => ?_) AllReadyH.nil
        go_simp
        refine (HS _).out.mono ?_
        rintro x w5 ⟨rfl, hk5⟩
        refine hK.out _ _ (hHeld.step hk5) (fun hHeld => ?_)
        clear hK K
        try simp only [Act.put, List.setIfInBounds_toArray, List.set_cons_zero, List.set_cons_succ]
        refine take_at (i := 22) (d := 52) (v := .bool true) rfl (by kernel_rfl) (by kernel_rfl) (by kernel_rfl) (by kernel_rfl) (fun _ _ _ h => h) (Or.inl ⟨by rfl, ?_⟩) (by assumption) ?_
        · intro W hW; obtain ⟨_, c3, c4⟩ := hW.two; go_simp
        try simp only [Act.put, List.setIfInBounds_toArray, List.set_cons_zero, List.set_cons_succ]
        refine take_at (i := 23) (d := 53) (v := .bool true) rfl (by kernel_rfl) (by kernel_rfl) (by kernel_rfl) (by kernel_rfl) (fun _ _ _ h => h) (Or.inl ⟨by rfl, ?_⟩) (by assumption) ?_
        · intro W hW; obtain ⟨_, c3, c4⟩ := hW.two; go_simp
        try simp only [Act.put, List.setIfInBounds_toArray, List.set_cons_zero, List.set_cons_succ]
        refine take_at (i := 24) (d := 54) (v := .bool true) rfl (by kernel_rfl) (by kernel_rfl) (by kernel_rfl) (by kernel_rfl) (fun _ _ _ h => h) (Or.inl ⟨by rfl, ?_⟩) (by assumption) ?_
        · intro W hW; obtain ⟨_, c3, c4⟩ := hW.two; go_simp
        try simp only [Act.put, List.setIfInBounds_toArray, List.set_cons_zero, List.set_cons_succ]
        refine take_at (i := 25) (d := 55) (v := .bool true) rfl (by kernel_rfl) (by kernel_rfl) (by kernel_rfl) (by kernel_rfl) (fun _ _ _ h => h) (Or.inl ⟨by rfl, ?_⟩) (by assumption) ?_
        · intro W hW; obtain ⟨_, c3, c4⟩ := hW.two; go_simp
        try simp only [Act.put, List.setIfInBounds_toArray, List.set_cons_zero, List.set_cons_succ]
        refine wpAnyH_done (by kernel_rfl) ?_ _
        have HH := Lib.hid hHeld
        clear hHeld
        go_wp2
        go_ret
        exact ⟨by rw [HKK.out]; simp, HH.out.1⟩
      · cases qn
        all_goals
          go_enter Tryz.func80, Tryz.ntmps80
          go_upto_region 13 with fail
          obtain ⟨hK0, hP, hQ⟩ := boxes3 hn
          generalize (w.alloc (.cells #[.int .i64 3, .string p.tx, .string p.nm, .string p.ty, .string p.st, .int .i64 p.off, .slice A p.cs.length c] 68)).alloc (.cells #[.int .i64 0, .string p.tx, .string p.nm, .string p.ty, .string p.st, .int .i64 p.off, .slice none 0 0] 68) = W0 at *
          refine wp_region_held_drew (S := PlS w n #[.int .i64 3, .string p.tx, .string p.nm, .string p.ty, .string p.st, .int .i64 p.off, .slice A p.cs.length c] #[.int .i64 0, .string p.tx, .string p.nm, .string p.ty, .string p.st, .int .i64 p.off, .slice none 0 0]) (by kernel_rfl) ⟨hK0.drew, hP.keep ((Keep.refl [] _).drew) (by simp), hQ.keep ((Keep.refl [] _).drew) (by simp)⟩ (fun hHeld => ?_)
          clear hP hQ hK0
          generalize W0.drew = W1 at *
          refine take_at (i := 0) (d := 30) (v := .pointer (some ⟨n, 3, none⟩)) rfl (by kernel_rfl) (by kernel_rfl) (by kernel_rfl) (by kernel_rfl) (fun _ _ _ h => h) (Or.inl ⟨by rfl, ?_⟩) (by assumption) ?_
          · intro W hW; obtain ⟨_, c3, c4⟩ := hW.two; go_simp
          try simp only [Act.put, List.setIfInBounds_toArray, List.set_cons_zero, List.set_cons_succ]
          refine take_at (i := 1) (d := 31) (v := .string p.ty) rfl (by kernel_rfl) (by kernel_rfl) (by kernel_rfl) (by kernel_rfl) (fun _ _ _ h => h) (Or.inl ⟨by rfl, ?_⟩) (by assumption) ?_
          · intro W hW; obtain ⟨_, c3, c4⟩ := hW.two; go_simp
          try simp only [Act.put, List.setIfInBounds_toArray, List.set_cons_zero, List.set_cons_succ]
          refine take_at (i := 2) (d := 32) (v := .bool true) rfl (by kernel_rfl) (by kernel_rfl) (by kernel_rfl) (by kernel_rfl) (fun _ _ _ h => h) (Or.inl ⟨by rfl, ?_⟩) (by assumption) ?_
          · intro W hW; obtain ⟨_, c3, c4⟩ := hW.two; go_simp
          try simp only [Act.put, List.setIfInBounds_toArray, List.set_cons_zero, List.set_cons_succ]
          refine take_at (i := 3) (d := 33) (v := .bool true) rfl (by kernel_rfl) (by kernel_rfl) (by kernel_rfl) (by kernel_rfl) (fun _ _ _ h => h) (Or.inl ⟨by rfl, ?_⟩) (by assumption) ?_
          · intro W hW; obtain ⟨_, c3, c4⟩ := hW.two; go_simp
          try simp only [Act.put, List.setIfInBounds_toArray, List.set_cons_zero, List.set_cons_succ]
          refine take_at (i := 5) (d := 35) (v := .pointer (some ⟨n, 3, none⟩)) rfl (by kernel_rfl) (by kernel_rfl) (by kernel_rfl) (by kernel_rfl) (fun _ _ _ h => h) (Or.inl ⟨by rfl, ?_⟩) (by assumption) ?_
          · intro W hW; obtain ⟨_, c3, c4⟩ := hW.two; go_simp
          try simp only [Act.put, List.setIfInBounds_toArray, List.set_cons_zero, List.set_cons_succ]
          refine take_at (i := 6) (d := 36) (v := .string p.ty) rfl (by kernel_rfl) (by kernel_rfl) (by kernel_rfl) (by kernel_rfl) (fun _ _ _ h => h) (Or.inl ⟨by rfl, ?_⟩) (by assumption) ?_
          · intro W hW; obtain ⟨_, c3, c4⟩ := hW.two; go_simp
          try simp only [Act.put, List.setIfInBounds_toArray, List.set_cons_zero, List.set_cons_succ]
          refine wpAnyH_ready (rs := [4]) (by kernel_rfl) (by simp) ?_
          refine AllReadyH.cons rfl (fun K hK => ?_) AllReadyH.nil
          go_simp
          refine (typef_any (B := B) _ (HEA.out _ hHeld.1)).mono ?_
          rintro x w3 ⟨rfl, rfl⟩
          refine hK.out _ _ (hHeld.step ((Keep.refl [] _).alloc _)) (fun hHeld => ?_)
          clear hK K
          try simp only [Act.put, List.setIfInBounds_toArray, List.set_cons_zero, List.set_cons_succ]
          refine wpAnyH_ready (rs := [7]) (by kernel_rfl) (by simp) ?_
          refine AllReadyH.cons rfl (fun K hK => ?_) AllReadyH.nil
          go_simp
          refine (HC _ _ rfl).out.mono ?_
          rintro x w4 ⟨rfl, rfl⟩
          refine hK.out _ _ hHeld (fun hHeld => ?_)
          clear hK K
          try simp only [Act.put, List.setIfInBounds_toArray, List.set_cons_zero, List.set_cons_succ]
          refine take_at (i := 8) (d := 38) (v := .bool false) rfl (by kernel_rfl) (by kernel_rfl) (by kernel_rfl) (by kernel_rfl) (fun _ _ _ h => h) (Or.inl ⟨by rfl, ?_⟩) (by assumption) ?_
          · intro W hW; obtain ⟨_, c3, c4⟩ := hW.two; go_simp
          try simp only [Act.put, List.setIfInBounds_toArray, List.set_cons_zero, List.set_cons_succ]
          refine take_at (i := 9) (d := 39) (v := .bool false) rfl (by kernel_rfl) (by kernel_rfl) (by kernel_rfl) (by kernel_rfl) (fun _ _ _ h => h) (Or.inl ⟨by rfl, ?_⟩) (by assumption) ?_
          · intro W hW; obtain ⟨_, c3, c4⟩ := hW.two; go_simp
          try simp only [Act.put, List.setIfInBounds_toArray, List.set_cons_zero, List.set_cons_succ]
          refine take_at (i := 10) (d := 40) (v := .bool false) rfl (by kernel_rfl) (by kernel_rfl) (by kernel_rfl) (by kernel_rfl) (fun _ _ _ h => h) (Or.inl ⟨by rfl, ?_⟩) (by assumption) ?_
          · intro W hW; obtain ⟨_, c3, c4⟩ := hW.two; go_simp
          try simp only [Act.put, List.setIfInBounds_toArray, List.set_cons_zero, List.set_cons_succ]
          refine take_at (i := 11) (d := 41) (v := .pointer (some ⟨n, 4, none⟩)) rfl (by kernel_rfl) (by kernel_rfl) (by kernel_rfl) (by kernel_rfl) (fun _ _ _ h => h) (Or.inl ⟨by rfl, ?_⟩) (by assumption) ?_
          · intro W hW; obtain ⟨_, c3, c4⟩ := hW.two; go_simp
          try simp only [Act.put, List.setIfInBounds_toArray, List.set_cons_zero, List.set_cons_succ]
          refine take_at (i := 12) (d := 42) (v := .string p.st) rfl (by kernel_rfl) (by kernel_rfl) (by kernel_rfl) (by kernel_rfl) (fun _ _ _ h => h) (Or.inl ⟨by rfl, ?_⟩) (by assumption) ?_
          · intro W hW; obtain ⟨_, c3, c4⟩ := hW.two; go_simp
          try simp only [Act.put, List.setIfInBounds_toArray, List.set_cons_zero, List.set_cons_succ]
          refine take_at (i := 13) (d := 43) (v := .bool true) rfl (by kernel_rfl) (by kernel_rfl) (by kernel_rfl) (by kernel_rfl) (fun _ _ _ h => h) (Or.inl ⟨by rfl, ?_⟩) (by assumption) ?_
          · intro W hW; obtain ⟨_, c3, c4⟩ := hW.two; go_simp
          try simp only [Act.put, List.setIfInBounds_toArray, List.set_cons_zero, List.set_cons_succ]
          refine take_at (i := 14) (d := 44) (v := .bool true) rfl (by kernel_rfl) (by kernel_rfl) (by kernel_rfl) (by kernel_rfl) (fun _ _ _ h => h) (Or.inl ⟨by rfl, ?_⟩) (by assumption) ?_
          · intro W hW; obtain ⟨_, c3, c4⟩ := hW.two; go_simp
          try simp only [Act.put, List.setIfInBounds_toArray, List.set_cons_zero, List.set_cons_succ]
          refine take_at (i := 15) (d := 45) (v := .pointer (some ⟨n, 3, none⟩)) rfl (by kernel_rfl) (by kernel_rfl) (by kernel_rfl) (by kernel_rfl) (fun _ _ _ h => h) (Or.inl ⟨by rfl, ?_⟩) (by assumption) ?_
          · intro W hW; obtain ⟨_, c3, c4⟩ := hW.two; go_simp
          try simp only [Act.put, List.setIfInBounds_toArray, List.set_cons_zero, List.set_cons_succ]
          refine take_at (i := 16) (d := 46) (v := .string p.ty) rfl (by kernel_rfl) (by kernel_rfl) (by kernel_rfl) (by kernel_rfl) (fun _ _ _ h => h) (Or.inl ⟨by rfl, ?_⟩) (by assumption) ?_
          · intro W hW; obtain ⟨_, c3, c4⟩ := hW.two; go_simp
          try simp only [Act.put, List.setIfInBounds_toArray, List.set_cons_zero, List.set_cons_succ]
          refine take_at (i := 17) (d := 47) (v := .bool false) rfl (by kernel_rfl) (by kernel_rfl) (by kernel_rfl) (by kernel_rfl) (fun _ _ _ h => h) (Or.inl ⟨by rfl, ?_⟩) (by assumption) ?_
          · intro W hW; obtain ⟨_, c3, c4⟩ := hW.two; go_simp
          try simp only [Act.put, List.setIfInBounds_toArray, List.set_cons_zero, List.set_cons_succ]
          refine take_at (i := 18) (d := 48) (v := .bool false) rfl (by kernel_rfl) (by kernel_rfl) (by kernel_rfl) (by kernel_rfl) (fun _ _ _ h => h) (Or.inl ⟨by rfl, ?_⟩) (by assumption) ?_
          · intro W hW; obtain ⟨_, c3, c4⟩ := hW.two; go_simp
          try simp only [Act.put, List.setIfInBounds_toArray, List.set_cons_zero, List.set_cons_succ]
          refine take_at (i := 19) (d := 49) (v := .pointer (some ⟨n, 4, none⟩)) rfl (by kernel_rfl) (by kernel_rfl) (by kernel_rfl) (by kernel_rfl) (fun _ _ _ h => h) (Or.inl ⟨by rfl, ?_⟩) (by assumption) ?_
          · intro W hW; obtain ⟨_, c3, c4⟩ := hW.two; go_simp
          try simp only [Act.put, List.setIfInBounds_toArray, List.set_cons_zero, List.set_cons_succ]
          refine take_at (i := 20) (d := 50) (v := .string p.st) rfl (by kernel_rfl) (by kernel_rfl) (by kernel_rfl) (by kernel_rfl) (fun _ _ _ h => h) (Or.inl ⟨by rfl, ?_⟩) (by assumption) ?_
          · intro W hW; obtain ⟨_, c3, c4⟩ := hW.two; go_simp
          try simp only [Act.put, List.setIfInBounds_toArray, List.set_cons_zero, List.set_cons_succ]
          refine wpAnyH_ready (rs := [21]) (by kernel_rfl) (by simp) ?_
          refine AllReadyH.cons rfl (fun K hK => ?_) AllReadyH.nil
          go_simp
          refine (HS _).out.mono ?_
          rintro x w5 ⟨rfl, hk5⟩
          refine hK.out _ _ (hHeld.step hk5) (fun hHeld => ?_)
          clear hK K
          try simp only [Act.put, List.setIfInBounds_toArray, List.set_cons_zero, List.set_cons_succ]
          refine take_at (i := 22) (d := 52) (v := .bool false) rfl (by kernel_rfl) (by kernel_rfl) (by kernel_rfl) (by kernel_rfl) (fun _ _ _ h => h) (Or.inl ⟨by rfl, ?_⟩) (by assumption) ?_
          · intro W hW; obtain ⟨_, c3, c4⟩ := hW.two; go_simp
          try simp only [Act.put, List.setIfInBounds_toArray, List.set_cons_zero, List.set_cons_succ]
          refine take_at (i := 23) (d := 53) (v := .bool false) rfl (by kernel_rfl) (by kernel_rfl) (by kernel_rfl) (by kernel_rfl) (fun _ _ _ h => h) (Or.inl ⟨by rfl, ?_⟩) (by assumption) ?_
          · intro W hW; obtain ⟨_, c3, c4⟩ := hW.two; go_simp
          try simp only [Act.put, List.setIfInBounds_toArray, List.set_cons_zero, List.set_cons_succ]
          refine take_at (i := 24) (d := 54) (v := .bool false) rfl (by kernel_rfl) (by kernel_rfl) (by kernel_rfl) (by kernel_rfl) (fun _ _ _ h => h) (Or.inl ⟨by rfl, ?_⟩) (by assumption) ?_
          · intro W hW; obtain ⟨_, c3, c4⟩ := hW.two; go_simp
          try simp only [Act.put, List.setIfInBounds_toArray, List.set_cons_zero, List.set_cons_succ]
          refine take_at (i := 25) (d := 55) (v := .bool false) rfl (by kernel_rfl) (by kernel_rfl) (by kernel_rfl) (by kernel_rfl) (fun _ _ _ h => h) (Or.inl ⟨by rfl, ?_⟩) (by assumption) ?_
          · intro W hW; obtain ⟨_, c3, c4⟩ := hW.two; go_simp
          try simp only [Act.put, List.setIfInBounds_toArray, List.set_cons_zero, List.set_cons_succ]
          refine wpAnyH_done (by kernel_rfl) ?_ _
          generalize hGW : w5 = W9 at *
          have HH := Lib.hid hHeld.1
          have c0 : W9.cell? ⟨n, 0, none⟩ = some (.int .i64 3) := hHeld.2.1.cell_eq rfl
          have c2 : W9.cell? ⟨n, 2, none⟩ = some (.string p.nm) := hHeld.2.1.cell_eq rfl
          have c6 : W9.cell? ⟨n, 6, none⟩ = some (.slice A p.cs.length c) := hHeld.2.1.cell_eq rfl
          have d1 : W9.cell? ⟨n + 1, 1, none⟩ = some (.string p.tx) := hHeld.2.2.cell_eq rfl
          have d2 : W9.cell? ⟨n + 1, 2, none⟩ = some (.string p.nm) := hHeld.2.2.cell_eq rfl
          have d3 : W9.cell? ⟨n + 1, 3, none⟩ = some (.string p.ty) := hHeld.2.2.cell_eq rfl
          have d4 : W9.cell? ⟨n + 1, 4, none⟩ = some (.string p.st) := hHeld.2.2.cell_eq rfl
          have d5 : W9.cell? ⟨n + 1, 5, none⟩ = some (.int .i64 p.off) := hHeld.2.2.cell_eq rfl
          have z2 := hHeld.2.2.frozen 2
          have z3 := hHeld.2.2.frozen 3
          have z4 := hHeld.2.2.frozen 4
          have hlt : n + 1 < W9.heap.size := hHeld.2.2.lt
          clear hHeld
          go_wp2_with (go_at_call 101; refine (HN _).out.mono ?_; rintro e w3 ⟨rfl, rfl⟩)
          all_goals
            go_ret
            refine ⟨by rw [HKK.out]; simp [*], ?_⟩
            repeat (first | exact HH.out | refine Keep.drewN ?_ _ | refine Keep.setCell ?_ (.inr (by show w.heap.size ≤ n + 1; omega)) _)
    · rw [h4] at HKK
      have h4n : p.st.toList = [] := List.isEmpty_iff.1 h4
      clear HS
      cases qn
      all_goals
        go_enter Tryz.func80, Tryz.ntmps80
        go_upto_region 13 with fail
        obtain ⟨hK0, hP, hQ⟩ := boxes3 hn
        generalize (w.alloc (.cells #[.int .i64 3, .string p.tx, .string p.nm, .string p.ty, .string p.st, .int .i64 p.off, .slice A p.cs.length c] 68)).alloc (.cells #[.int .i64 0, .string p.tx, .string p.nm, .string p.ty, .string p.st, .int .i64 p.off, .slice none 0 0] 68) = W0 at *
        refine wp_region_held_drew (S := PlS w n #[.int .i64 3, .string p.tx, .string p.nm, .string p.ty, .string p.st, .int .i64 p.off, .slice A p.cs.length c] #[.int .i64 0, .string p.tx, .string p.nm, .string p.ty, .string p.st, .int .i64 p.off, .slice none 0 0]) (by kernel_rfl) ⟨hK0.drew, hP.keep ((Keep.refl [] _).drew) (by simp), hQ.keep ((Keep.refl [] _).drew) (by simp)⟩ (fun hHeld => ?_)
        clear hP hQ hK0
        generalize W0.drew = W1 at *
        refine take_at (i := 0) (d := 30) (v := .pointer (some ⟨n, 3, none⟩)) rfl (by kernel_rfl) (by kernel_rfl) (by kernel_rfl) (by kernel_rfl) (fun _ _ _ h => h) (Or.inl ⟨by rfl, ?_⟩) (by assumption) ?_
        · intro W hW; obtain ⟨_, c3, c4⟩ := hW.two; go_simp
        try simp only [Act.put, List.setIfInBounds_toArray, List.set_cons_zero, List.set_cons_succ]
        refine take_at (i := 1) (d := 31) (v := .string p.ty) rfl (by kernel_rfl) (by kernel_rfl) (by kernel_rfl) (by kernel_rfl) (fun _ _ _ h => h) (Or.inl ⟨by rfl, ?_⟩) (by assumption) ?_
        · intro W hW; obtain ⟨_, c3, c4⟩ := hW.two; go_simp
        try simp only [Act.put, List.setIfInBounds_toArray, List.set_cons_zero, List.set_cons_succ]
        refine take_at (i := 2) (d := 32) (v := .bool true) rfl (by kernel_rfl) (by kernel_rfl) (by kernel_rfl) (by kernel_rfl) (fun _ _ _ h => h) (Or.inl ⟨by rfl, ?_⟩) (by assumption) ?_
        · intro W hW; obtain ⟨_, c3, c4⟩ := hW.two; go_simp
        try simp only [Act.put, List.setIfInBounds_toArray, List.set_cons_zero, List.set_cons_succ]
        refine take_at (i := 3) (d := 33) (v := .bool true) rfl (by kernel_rfl) (by kernel_rfl) (by kernel_rfl) (by kernel_rfl) (fun _ _ _ h => h) (Or.inl ⟨by rfl, ?_⟩) (by assumption) ?_
        · intro W hW; obtain ⟨_, c3, c4⟩ := hW.two; go_simp
        try simp only [Act.put, List.setIfInBounds_toArray, List.set_cons_zero, List.set_cons_succ]
        refine take_at (i := 5) (d := 35) (v := .pointer (some ⟨n, 3, none⟩)) rfl (by kernel_rfl) (by kernel_rfl) (by kernel_rfl) (by kernel_rfl) (fun _ _ _ h => h) (Or.inl ⟨by rfl, ?_⟩) (by assumption) ?_
        · intro W hW; obtain ⟨_, c3, c4⟩ := hW.two; go_simp
        try simp only [Act.put, List.setIfInBounds_toArray, List.set_cons_zero, List.set_cons_succ]
        refine take_at (i := 6) (d := 36) (v := .string p.ty) rfl (by kernel_rfl) (by kernel_rfl) (by kernel_rfl) (by kernel_rfl) (fun _ _ _ h => h) (Or.inl ⟨by rfl, ?_⟩) (by assumption) ?_
        · intro W hW; obtain ⟨_, c3, c4⟩ := hW.two; go_simp
        try simp only [Act.put, List.setIfInBounds_toArray, List.set_cons_zero, List.set_cons_succ]
        refine wpAnyH_ready (rs := [4]) (by kernel_rfl) (by simp) ?_
        refine AllReadyH.cons rfl (fun K hK => ?_) AllReadyH.nil
        go_simp
        refine (typef_any (B := B) _ (HEA.out _ hHeld.1)).mono ?_
        rintro x w3 ⟨rfl, rfl⟩
        refine hK.out _ _ (hHeld.step ((Keep.refl [] _).alloc _)) (fun hHeld => ?_)
        clear hK K
        try simp only [Act.put, List.setIfInBounds_toArray, List.set_cons_zero, List.set_cons_succ]
        refine wpAnyH_ready (rs := [7]) (by kernel_rfl) (by simp) ?_
        refine AllReadyH.cons rfl (fun K hK => ?_) AllReadyH.nil
        go_simp
        refine (HC _ _ rfl).out.mono ?_
        rintro x w4 ⟨rfl, rfl⟩
        refine hK.out _ _ hHeld (fun hHeld => ?_)
        clear hK K
        try simp only [Act.put, List.setIfInBounds_toArray, List.set_cons_zero, List.set_cons_succ]
        refine take_at (i := 8) (d := 38) (v := .bool false) rfl (by kernel_rfl) (by kernel_rfl) (by kernel_rfl) (by kernel_rfl) (fun _ _ _ h => h) (Or.inl ⟨by rfl, ?_⟩) (by assumption) ?_
        · intro W hW; obtain ⟨_, c3, c4⟩ := hW.two; go_simp
        try simp only [Act.put, List.setIfInBounds_toArray, List.set_cons_zero, List.set_cons_succ]
        refine take_at (i := 9) (d := 39) (v := .bool false) rfl (by kernel_rfl) (by kernel_rfl) (by kernel_rfl) (by kernel_rfl) (fun _ _ _ h => h) (Or.inl ⟨by rfl, ?_⟩) (by assumption) ?_
        · intro W hW; obtain ⟨_, c3, c4⟩ := hW.two; go_simp
        try simp only [Act.put, List.setIfInBounds_toArray, List.set_cons_zero, List.set_cons_succ]
        refine take_at (i := 10) (d := 40) (v := .bool false) rfl (by kernel_rfl) (by kernel_rfl) (by kernel_rfl) (by kernel_rfl) (fun _ _ _ h => h) (Or.inl ⟨by rfl, ?_⟩) (by assumption) ?_
        · intro W hW; obtain ⟨_, c3, c4⟩ := hW.two; go_simp
        try simp only [Act.put, List.setIfInBounds_toArray, List.set_cons_zero, List.set_cons_succ]
        refine take_at (i := 11) (d := 41) (v := .pointer (some ⟨n, 4, none⟩)) rfl (by kernel_rfl) (by kernel_rfl) (by kernel_rfl) (by kernel_rfl) (fun _ _ _ h => h) (Or.inl ⟨by rfl, ?_⟩) (by assumption) ?_
        · intro W hW; obtain ⟨_, c3, c4⟩ := hW.two; go_simp
        try simp only [Act.put, List.setIfInBounds_toArray, List.set_cons_zero, List.set_cons_succ]
        refine take_at (i := 12) (d := 42) (v := .string p.st) rfl (by kernel_rfl) (by kernel_rfl) (by kernel_rfl) (by kernel_rfl) (fun _ _ _ h => h) (Or.inl ⟨by rfl, ?_⟩) (by assumption) ?_
        · intro W hW; obtain ⟨_, c3, c4⟩ := hW.two; go_simp
        try simp only [Act.put, List.setIfInBounds_toArray, List.set_cons_zero, List.set_cons_succ]
        refine take_at (i := 13) (d := 43) (v := .bool false) rfl (by kernel_rfl) (by kernel_rfl) (by kernel_rfl) (by kernel_rfl) (fun _ _ _ h => h) (Or.inl ⟨by rfl, ?_⟩) (by assumption) ?_
        · intro W hW; obtain ⟨_, c3, c4⟩ := hW.two; go_simp
        try simp only [Act.put, List.setIfInBounds_toArray, List.set_cons_zero, List.set_cons_succ]
        refine take_at (i := 14) (d := 44) (v := .bool false) rfl (by kernel_rfl) (by kernel_rfl) (by kernel_rfl) (by kernel_rfl) (fun _ _ _ h => h) (Or.inl ⟨by rfl, ?_⟩) (by assumption) ?_
        · intro W hW; obtain ⟨_, c3, c4⟩ := hW.two; go_simp
        try simp only [Act.put, List.setIfInBounds_toArray, List.set_cons_zero, List.set_cons_succ]
        refine take_at (i := 15) (d := 45) (v := undef) rfl (by kernel_rfl) (by kernel_rfl) (by kernel_rfl) (by kernel_rfl) (fun _ _ _ h => h) (Or.inr ⟨by kernel_rfl, rfl⟩) (by assumption) ?_
        try simp only [Act.put, List.setIfInBounds_toArray, List.set_cons_zero, List.set_cons_succ]
        refine take_at (i := 16) (d := 46) (v := undef) rfl (by kernel_rfl) (by kernel_rfl) (by kernel_rfl) (by kernel_rfl) (fun _ _ _ h => h) (Or.inr ⟨by kernel_rfl, rfl⟩) (by assumption) ?_
        try simp only [Act.put, List.setIfInBounds_toArray, List.set_cons_zero, List.set_cons_succ]
        refine take_at (i := 17) (d := 47) (v := undef) rfl (by kernel_rfl) (by kernel_rfl) (by kernel_rfl) (by kernel_rfl) (fun _ _ _ h => h) (Or.inr ⟨by kernel_rfl, rfl⟩) (by assumption) ?_
        try simp only [Act.put, List.setIfInBounds_toArray, List.set_cons_zero, List.set_cons_succ]
        refine take_at (i := 18) (d := 48) (v := undef) rfl (by kernel_rfl) (by kernel_rfl) (by kernel_rfl) (by kernel_rfl) (fun _ _ _ h => h) (Or.inr ⟨by kernel_rfl, rfl⟩) (by assumption) ?_
        try simp only [Act.put, List.setIfInBounds_toArray, List.set_cons_zero, List.set_cons_succ]
        refine take_at (i := 19) (d := 49) (v := undef) rfl (by kernel_rfl) (by kernel_rfl) (by kernel_rfl) (by kernel_rfl) (fun _ _ _ h => h) (Or.inr ⟨by kernel_rfl, rfl⟩) (by assumption) ?_
        try simp only [Act.put, List.setIfInBounds_toArray, List.set_cons_zero, List.set_cons_succ]
        refine take_at (i := 20) (d := 50) (v := undef) rfl (by kernel_rfl) (by kernel_rfl) (by kernel_rfl) (by kernel_rfl) (fun _ _ _ h => h) (Or.inr ⟨by kernel_rfl, rfl⟩) (by assumption) ?_
        try simp only [Act.put, List.setIfInBounds_toArray, List.set_cons_zero, List.set_cons_succ]
        refine take_at (i := 21) (d := 51) (v := undef) rfl (by kernel_rfl) (by kernel_rfl) (by kernel_rfl) (by kernel_rfl) (fun _ _ _ h => h) (Or.inr ⟨by kernel_rfl, rfl⟩) (by assumption) ?_
        try simp only [Act.put, List.setIfInBounds_toArray, List.set_cons_zero, List.set_cons_succ]
        refine take_at (i := 22) (d := 52) (v := undef) rfl (by kernel_rfl) (by kernel_rfl) (by kernel_rfl) (by kernel_rfl) (fun _ _ _ h => h) (Or.inr ⟨by kernel_rfl, rfl⟩) (by assumption) ?_
        try simp only [Act.put, List.setIfInBounds_toArray, List.set_cons_zero, List.set_cons_succ]
        refine take_at (i := 23) (d := 53) (v := undef) rfl (by kernel_rfl) (by kernel_rfl) (by kernel_rfl) (by kernel_rfl) (fun _ _ _ h => h) (Or.inr ⟨by kernel_rfl, rfl⟩) (by assumption) ?_
        try simp only [Act.put, List.setIfInBounds_toArray, List.set_cons_zero, List.set_cons_succ]
        refine take_at (i := 24) (d := 54) (v := .bool false) rfl (by kernel_rfl) (by kernel_rfl) (by kernel_rfl) (by kernel_rfl) (fun _ _ _ h => h) (Or.inl ⟨by rfl, ?_⟩) (by assumption) ?_
        · intro W hW; obtain ⟨_, c3, c4⟩ := hW.two; go_simp
        try simp only [Act.put, List.setIfInBounds_toArray, List.set_cons_zero, List.set_cons_succ]
        refine take_at (i := 25) (d := 55) (v := .bool false) rfl (by kernel_rfl) (by kernel_rfl) (by kernel_rfl) (by kernel_rfl) (fun _ _ _ h => h) (Or.inl ⟨by rfl, ?_⟩) (by assumption) ?_
        · intro W hW; obtain ⟨_, c3, c4⟩ := hW.two; go_simp
        try simp only [Act.put, List.setIfInBounds_toArray, List.set_cons_zero, List.set_cons_succ]
        refine wpAnyH_done (by kernel_rfl) ?_ _
        generalize W1.alloc (.cells (typesW.map Value.string).toArray 9) = W9 at *
        have HH := Lib.hid hHeld.1
        have c0 : W9.cell? ⟨n, 0, none⟩ = some (.int .i64 3) := hHeld.2.1.cell_eq rfl
        have c2 : W9.cell? ⟨n, 2, none⟩ = some (.string p.nm) := hHeld.2.1.cell_eq rfl
        have c6 : W9.cell? ⟨n, 6, none⟩ = some (.slice A p.cs.length c) := hHeld.2.1.cell_eq rfl
        have d1 : W9.cell? ⟨n + 1, 1, none⟩ = some (.string p.tx) := hHeld.2.2.cell_eq rfl
        have d2 : W9.cell? ⟨n + 1, 2, none⟩ = some (.string p.nm) := hHeld.2.2.cell_eq rfl
        have d3 : W9.cell? ⟨n + 1, 3, none⟩ = some (.string p.ty) := hHeld.2.2.cell_eq rfl
        have d4 : W9.cell? ⟨n + 1, 4, none⟩ = some (.string p.st) := hHeld.2.2.cell_eq rfl
        have d5 : W9.cell? ⟨n + 1, 5, none⟩ = some (.int .i64 p.off) := hHeld.2.2.cell_eq rfl
        have z2 := hHeld.2.2.frozen 2
        have z3 := hHeld.2.2.frozen 3
        have z4 := hHeld.2.2.frozen 4
        have hlt : n + 1 < W9.heap.size := hHeld.2.2.lt
        clear hHeld
        go_wp2_with (go_at_call 101; refine (HN _).out.mono ?_; rintro e w3 ⟨rfl, rfl⟩)
        all_goals
          go_ret
          refine ⟨by rw [HKK.out]; simp [*], ?_⟩
          repeat (first | exact HH.out | refine Keep.drewN ?_ _ | refine Keep.setCell ?_ (.inr (by show w.heap.size ≤ n + 1; omega)) _)
end Go.Proofs.YtmfoiceofhcicaaGreatDoor
