/- Walks: vernacularref02.Broken, Right and utf.Check: the first broken byte. -/
import Derived.Test.YtjldgcpmdcoejaaGreatDoorWForm
import Derived.Lib.OthersKept
import Derived.Lib.TrimU
namespace Go.Proofs.YtjldgcpmdcoejaaGreatDoor
open Go.RowKit

theorem iterPos1 (w0 : World) (n : Nat) (hn : w0.heap.size = n) (s : ByteArray) (p : Nat) : (w0.alloc (.stringIter s p)).iterPos n = p := by
  subst hn; exact World.iterPos_iter w0 s p
theorem next_any1 {P : Program} (w0 : World) (n : Nat) (hn : w0.heap.size = n) (s : ByteArray) (pos : Nat) (ty : TypeId) (h : pos < s.size) :
    (Instr.next (.pointer (some ⟨n, 0, none⟩)) true ty).run P (w0.alloc (.stringIter s pos)) =
      .ok (.tuple #[.bool true, .int .i64 pos, .int .i32 (Utf8.decode s pos).1]) (w0.alloc (.stringIter s (pos + (Utf8.decode s pos).2))) := by
  subst hn; exact run_next_any w0 s pos ty h
theorem next_end1 {P : Program} (w0 : World) (n : Nat) (hn : w0.heap.size = n) (s : ByteArray) (pos : Nat) (ty : TypeId) (h : ¬ pos < s.size) :
    (Instr.next (.pointer (some ⟨n, 0, none⟩)) true ty).run P (w0.alloc (.stringIter s pos)) = .ok (.tuple #[.bool false]) (w0.alloc (.stringIter s pos)) := by
  subst hn; exact run_next_end w0 s pos ty h

/-- What utf.Check tells. -/
def spotErr (s : ByteArray) : Int := if brk s < 0 then 0 else 6
def spotAt (s : ByteArray) : Int := if brk s < 0 then 0 else brk s

/-- Check's state ahead of a piece: the last piece's place, and whether it was U+FFFD. -/
def CheckInv (s : ByteArray) (pos last : Nat) (flag : Bool) : Prop :=
  pos ≤ s.size ∧ (flag = false → brkAt s pos = brk s) ∧
  (flag = true → last < s.size ∧ (Utf8.decode s last).1 = 65533 ∧ pos = last + (Utf8.decode s last).2 ∧ brkAt s last = brk s)
theorem spot_bad {s : ByteArray} {last : Nat} (h : CheckInv s (last + 1) last true) : spotErr s = 6 ∧ spotAt s = last := by
  obtain ⟨_, _, h⟩ := h
  obtain ⟨h1, h2, h3, h4⟩ := h rfl
  have hn : (formD s last).1 < 0 := (formD_neg s last).2 ⟨h2, by omega⟩
  rw [brkAt_bad s last h1 hn] at h4
  unfold spotErr spotAt
  rw [← h4, if_neg (by omega), if_neg (by omega)]
  exact ⟨rfl, rfl⟩
theorem check_good {s : ByteArray} {pos last : Nat} {flag : Bool} (h : CheckInv s pos last flag) (hb : flag = true → pos ≠ last + 1) : brkAt s pos = brk s := by
  cases flag with
  | false => exact h.2.1 rfl
  | true =>
    obtain ⟨h1, h2, h3, h4⟩ := h.2.2 rfl
    have hn : ¬ (formD s last).1 < 0 := fun hc => hb rfl (by rw [h3, ((formD_neg s last).1 hc).2])
    rw [brkAt_next s last h1 hn, formD_same s last hn] at h4
    rw [h3]
    exact h4
theorem check_next {s : ByteArray} {pos last : Nat} {flag : Bool} (h : CheckInv s pos last flag) (hb : flag = true → pos ≠ last + 1) (hp : pos < s.size) :
    CheckInv s (pos + (Utf8.decode s pos).2) pos (((Utf8.decode s pos).1 : Int) == 65533) := by
  have hg := check_good h hb
  have hw := formD_wide s pos hp
  refine ⟨?_, fun hf => ?_, fun ht => ⟨hp, by have := of_decide_eq_true ht; omega, rfl, hg⟩⟩
  · by_cases hn : (formD s pos).1 < 0
    · have := ((formD_neg s pos).1 hn).2; omega
    · rw [formD_same s pos hn] at hw; exact hw.2
  · have hn : ¬ (formD s pos).1 < 0 := fun hc => by
      have := ((formD_neg s pos).1 hc).1
      simp [this] at hf
    rw [← hg, brkAt_next s pos hp hn, formD_same s pos hn]
theorem spot_fine {s : ByteArray} {pos last : Nat} {flag : Bool} (h : CheckInv s pos last flag) (hb : flag = true → pos ≠ last + 1) (hp : s.size ≤ pos) : spotErr s = 0 ∧ spotAt s = 0 := by
  have hg := check_good h hb
  rw [brkAt_end s pos hp] at hg
  unfold spotErr spotAt
  rw [← hg]
  exact ⟨rfl, rfl⟩
theorem check_end {s : ByteArray} {pos last : Nat} (h : CheckInv s pos last true) (hb : s.size = last + 1) (hp : ¬ pos < s.size) : CheckInv s (last + 1) last true := by
  have h3 := (h.2.2 rfl).2.2.1
  have h1 := h.1
  have : pos = last + 1 := by have := (h.2.2 rfl).1; omega
  rw [this] at h
  exact h
theorem decode_wide (s : ByteArray) (pos : Nat) : 1 ≤ (Utf8.decode s pos).2 := Lib.width_pos s pos

set_option maxRecDepth 100000 in
set_option maxHeartbeats 1000000 in
/-- utf.Check. -/
theorem check_any (s : ByteArray) (w : World) (hs : s.size ≤ 9223372036854775000) :
    Calls Tryz.prog 30 #[.string s] w fun e w' => e = .returned (.agg #[.int .i64 (spotErr s), .int .i64 (spotAt s)]) ∧ Below w.heap.size w w' := by
  have hB : ∀ pos c, Below w.heap.size w ((w.alloc (Obj.cells c 36)).alloc (.stringIter s pos)) := fun pos c => ((Below.refl _ w).alloc (Nat.le_refl _) _).alloc (by simp) _
  have HB := Lib.hid hB
  clear hB
  go_enter Tryz.func30, Tryz.ntmps30
  go_wp2
  go_loopw [3, 4] (fun l f wr => ∃ (pos last : Nat) (flag : Bool), l = .int .i64 last ∧ f = .bool flag ∧ CheckInv s pos last flag ∧ wr = (w.alloc (Obj.cells #[Value.int IntKind.i64 0, Value.int IntKind.i64 0] 36)).alloc (.stringIter s pos))
    (fun _ _ wr => s.size - wr.iterPos (w.heap.size + 1))
  case atStart => exact ⟨0, 0, false, rfl, rfl, ⟨Nat.zero_le _, fun _ => rfl, fun h => by cases h⟩, rfl⟩
  case round =>
    obtain ⟨pos, last, flag, rfl, rfl, hI, rfl⟩ := hrel
    have HI := Lib.hid hI
    have hps := hI.1
    have hdw := decode_wide s pos
    by_cases hp : pos < s.size
    · have hnx := fun ty => next_any1 (P := Tryz.prog) (w.alloc (Obj.cells #[Value.int IntKind.i64 0, Value.int IntKind.i64 0] 36)) (w.heap.size + 1) (by simp) s pos ty hp
      cases flag with
      | false =>
        clear hI
        go_wp2
        go_roundw
        case rel => exact ⟨_, pos, _, rfl, rfl, check_next HI.out (fun h => by cases h) hp, rfl⟩
        case measure => rw [iterPos1 _ _ (by simp), iterPos1 _ _ (by simp)]; omega
      | true =>
        have hlp : last < pos := by have := hI.2.2 rfl; have := decode_wide s last; omega
        clear hI
        by_cases hb : pos = last + 1
        · subst hb
          have e1 : (((last + 1 : Nat) : Int) - last == 1) = true := by rw [beq_iff_eq]; omega
          go_wp2
          exact bodyPost_ret (v := .agg #[.int .i64 6, .int .i64 last]) (by simp [results, Tryz.results30, go_sem]) rfl ⟨by rw [(spot_bad HI.out).1, (spot_bad HI.out).2], HB.out _ _⟩
        · have e1 : ((pos : Int) - last == 1) = false := by rw [beq_eq_false_iff_ne]; omega
          go_wp2
          go_roundw
          case rel => exact ⟨_, pos, _, rfl, rfl, check_next HI.out (fun _ => hb) hp, rfl⟩
          case measure => rw [iterPos1 _ _ (by simp), iterPos1 _ _ (by simp)]; omega
    · have hnx := fun ty => next_end1 (P := Tryz.prog) (w.alloc (Obj.cells #[Value.int IntKind.i64 0, Value.int IntKind.i64 0] 36)) (w.heap.size + 1) (by simp) s pos ty hp
      cases flag with
      | false =>
        clear hI
        go_wp2
        exact bodyPost_ret (v := .agg #[.int .i64 0, .int .i64 0]) (by simp [results, Tryz.results30, go_sem]) rfl ⟨by rw [(spot_fine HI.out (fun h => by cases h) (by omega)).1, (spot_fine HI.out (fun h => by cases h) (by omega)).2], HB.out _ _⟩
      | true =>
        have hlp : last < pos := by have := hI.2.2 rfl; have := decode_wide s last; omega
        have hls : last < s.size := (hI.2.2 rfl).1
        clear hI
        by_cases hb : s.size = last + 1
        · have e1 : ((s.size : Int) - last == 1) = true := by rw [beq_iff_eq]; omega
          have Hb := Lib.hid hb
          clear hb
          go_wp2
          exact bodyPost_ret (v := .agg #[.int .i64 6, .int .i64 last]) (by simp [results, Tryz.results30, go_sem]) rfl ⟨by rw [(spot_bad (check_end HI.out Hb.out hp)).1, (spot_bad (check_end HI.out Hb.out hp)).2], HB.out _ _⟩
        · have e1 : ((s.size : Int) - last == 1) = false := by rw [beq_eq_false_iff_ne]; omega
          go_wp2
          exact bodyPost_ret (v := .agg #[.int .i64 0, .int .i64 0]) (by simp [results, Tryz.results30, go_sem]) rfl ⟨by rw [(spot_fine HI.out (fun _ h => hb (by omega)) (by omega)).1, (spot_fine HI.out (fun _ h => hb (by omega)) (by omega)).2], HB.out _ _⟩
end Go.Proofs.YtjldgcpmdcoejaaGreatDoor
