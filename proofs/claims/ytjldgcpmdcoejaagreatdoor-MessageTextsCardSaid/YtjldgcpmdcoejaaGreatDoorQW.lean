/- Walks: wakes of the law of messages; message.Plain. -/
import Derived.Test.YtjldgcpmdcoejaaGreatDoorQF
import Derived.Test.YtjldgcpmdcoejaaGreatDoorPA
namespace Go.Proofs.YtjldgcpmdcoejaaGreatDoor
open Go.RowKit

def wB : ByteArray := ⟨#[123, 110, 44, 32, 112, 108, 117, 114, 97, 108, 44, 32, 111, 102, 102, 115, 101, 116, 58, 49, 32, 61, 48, 123, 110, 111, 110, 101, 125, 32, 111, 116, 104, 101, 114, 123, 35, 32, 111, 102, 32, 123, 119, 125, 125, 125]⟩
def wL : List PT := match msgF wB (wB.size + 1) 0 false [] 0 0 with | .ok l _ _ => l | _ => []
def okB (p : PT) : Bool := decide (p.tx.size ≤ 1000000000) && decide (p.nm.size ≤ 1000000000) && (decide (p.k ≠ 3) || decide (p.ty.size = 0))
def ofB (p : PT) : Bool := decide (0 ≤ p.off) && decide (p.off ≤ 999999999)
def allQ (q : PT → Bool) : Nat → List PT → Bool
  | 0, _ => true
  | n + 1, l => l.all fun p => q p && p.cs.all fun c => allQ q n c.2
theorem allQ_F {q : PT → Bool} {Q : PT → Prop} (h : ∀ p, q p = true → Q p) : ∀ (n : Nat) (l : List PT), allQ q n l = true → allF Q n l
  | 0, _, _ => trivial
  | n + 1, l, hl => fun p hp => by
    have := List.all_eq_true.1 hl p hp
    rw [Bool.and_eq_true] at this
    exact ⟨h p this.1, fun c hc => allQ_F h n c.2 (List.all_eq_true.1 this.2 c hc)⟩
theorem allQ_O {q : PT → Bool} {Q : PT → Prop} (h : ∀ p, q p = true → Q p) : ∀ (n : Nat) (l : List PT), allQ q n l = true → allO Q n l
  | 0, _, _ => trivial
  | n + 1, l, hl => fun p hp => by
    have := List.all_eq_true.1 hl p hp
    rw [Bool.and_eq_true] at this
    exact ⟨h p this.1, fun c hc => allQ_O h n c.2 (List.all_eq_true.1 this.2 c hc)⟩
theorem okB_ok (p : PT) (h : okB p = true) : PlainOK p := by
  simp only [okB, Bool.and_eq_true, Bool.or_eq_true, decide_eq_true_eq] at h
  exact plain_ok p h.1.1 h.1.2 (fun h3 => h.2.resolve_left (fun hn => hn h3))
theorem ofB_ok (p : PT) (h : ofB p = true) : offOK p := by
  simp only [ofB, Bool.and_eq_true, decide_eq_true_eq] at h
  exact h
theorem w_msg : msgF wB (wB.size + 1) 0 false [] 0 0 = .ok wL wB.size 5 := by kernel_rfl
theorem w_brk : brk wB = -1 := by kernel_rfl
theorem w_ok : allQ okB (wB.size + 2) wL = true := by kernel_rfl
theorem w_of : allQ ofB (wB.size + 2) wL = true := by kernel_rfl
theorem w_bulk : bulkF (wB.size + 2) wL ≤ 900000000 := of_decide_eq_true (by kernel_rfl)
theorem w_form : formF (wB.size + 2) wL = (wB.data.toList, 0) := by kernel_rfl
theorem w_one : ∃ p, wL = [p] ∧ p.cs.length = 2 := ⟨wL.head (by intro h; exact absurd (congrArg List.length h) (by decide +kernel)), by kernel_rfl, by kernel_rfl⟩
set_option maxRecDepth 100000 in
set_option maxHeartbeats 2000000 in
/-- wakes is true. -/
theorem wakes_any {B : Nat} (w : World) (hE : EnvM B w) :
    Calls Tryz.prog 9 #[] w fun e w' => e = .returned (.bool true) ∧ Keep [] w w' := by
  have HE := Lib.hid hE
  obtain ⟨p, hp1, hp2⟩ := w_one
  have HP : Hid (Calls Tryz.prog 18 #[.string wB] w fun e w' => ∃ u S, e = .returned (.tuple #[u, .agg #[.int .i64 0, .int .i64 0]]) ∧ Lies (wB.size + 1 + 1) S w' u wL ∧ (∀ b, S b → w.heap.size ≤ b ∧ b < w'.heap.size) ∧ Keep [] w w') := parse_ok wB w hE (by decide) (by rw [w_brk]; decide) wL 5 w_msg
  have HPR : ∀ (S : Nat → Prop) (v : Value) W, EnvM B W → Lies (wB.size + 1 + 1) S W v wL → (∀ x, S x → x < W.heap.size) → Hid (Calls Tryz.prog 11 #[v] W fun e w' => e = .returned (.tuple #[.string wB, .int .i64 0]) ∧ Keep [] W w') := fun S v W h1 h2 h3 => by
    have := print_any (wB.size + 2) wL S v B W h1 h2 h3 (allQ_F okB_ok _ _ w_ok) (allQ_O ofB_ok _ _ w_of) w_bulk
    rw [w_form] at this
    exact this
  rw [hp1] at HP HPR
  clear hE hp1
  generalize wB.size + 1 = m at HP HPR
  unfold wB at HP HPR
  go_enter Tryz.func9, Tryz.ntmps9
  go_wp2_with fail
  refine HP.out.mono ?_
  rintro e w1 ⟨u, S, rfl, hL, hS, hk⟩
  have hE1 := HE.out.keep hk (by simp)
  obtain ⟨A, cap, rfl, _, hat⟩ := lies_open hL
  obtain ⟨b, o, cv, rfl, hb, hP, hC⟩ := hat 0 p rfl
  have hP' : PAt w1 b o p cv := by simpa using hP
  obtain ⟨Ac, cc, rfl⟩ := hC.formL
  rw [hp2] at hP'
  rw [List.length_singleton] at hL ⊢
  have hkA : Keep [] w1 (w1.alloc (.cells #[.int .i64 0, .int .i64 0] 36)) := (Keep.refl [] w1).alloc _
  have HPR2 := HPR S _ (w1.alloc (.cells #[.int .i64 0, .int .i64 0] 36)) (hE1.keep hkA (by simp)) (hL.keep hkA (by simp)) (fun x hx => by have := (hS x hx).2; simp; omega)
  have HB1 : Hid (Blk (w1.alloc (.cells #[.int .i64 0, .int .i64 0] 36)) w1.heap.size 36 #[.int .i64 0, .int .i64 0]) := Blk.new _ _ _
  have HP2 := Lib.hid (hP'.keep hkA hb)
  have HK2 := Lib.hid (hk.nil hkA)
  have hb2 : b < (w1.alloc (.cells #[.int .i64 0, .int .i64 0] 36)).heap.size := by simp; omega
  clear hat hP hP' hL hS hk hE1 hkA hC HPR
  go_wp2_with fail
  refine HPR2.out.mono ?_
  rintro e w2 ⟨rfl, hk2⟩
  have hx := HB1.out.keep hk2 (by simp)
  have x0 : w2.cell? ⟨w1.heap.size, 0, none⟩ = some (.int .i64 0) := hx.cell_eq rfl
  have x1 : w2.cell? ⟨w1.heap.size, 1, none⟩ = some (.int .i64 0) := hx.cell_eq rfl
  obtain ⟨a0, a1, a2, a3, a4, a5, a6⟩ := HP2.out.keep hk2 hb2
  have hbz : b < w2.heap.size := Nat.lt_of_lt_of_le hb2 hk2.size
  have HK3 := Lib.hid (HK2.out.nil hk2)
  clear hk2 hx
  go_wp2_with fail
  go_ret
  exact ⟨rfl, HK3.out⟩
/-- What message.Plain tells. -/
def plainT (s : ByteArray) : ByteArray := if 4096 < s.size ∨ ¬ brk s < 0 then ⟨#[]⟩ else ⟨(dressL false s.data.toList).toArray⟩
set_option maxRecDepth 100000 in
/-- message.Plain. -/
theorem mplain_any {B : Nat} (s : ByteArray) (w : World) (hE : EnvM B w) (hs : s.size ≤ 9223372036854775000) :
    Calls Tryz.prog 15 #[.string s] w fun e w' => e = .returned (.string (plainT s)) ∧ Keep [] w w' := by
  have HE := Lib.hid hE
  have HC := Lib.hid (check_any s w hs)
  have hfs := fun W => field_spot W (.int .i64 (spotErr s)) (.int .i64 (spotAt s))
  obtain ⟨t, ht⟩ : ∃ t, plainT s = t := ⟨_, rfl⟩
  rw [ht]
  by_cases h1 : 4096 < s.size
  · have HT := Lib.hid (show t = ⟨#[]⟩ by rw [← ht]; unfold plainT; rw [if_pos (.inl h1)])
    have e1 : (4096 : Int) < s.size := by omega
    clear ht hE
    go_enter Tryz.func15, Tryz.ntmps15
    go_wp2_with fail
    go_ret
    exact ⟨by rw [HT.out]; rfl, Keep.refl _ _⟩
  · have e1 : ¬ (4096 : Int) < s.size := by omega
    by_cases h2 : brk s < 0
    · have HT := Lib.hid (show t = ⟨(dressL false s.data.toList).toArray⟩ by rw [← ht]; unfold plainT; rw [if_neg (fun h => h.elim (fun h => h1 h) (fun h => h h2))])
      have HD : ∀ W, EnvM B W → Hid (Calls Tryz.prog 31 #[.string s, .bool false] W fun e w' => e = .returned (.string t) ∧ Keep [] W w') := fun W hW => by rw [HT.out]; exact dress_any s false W hW (by omega)
      have h3 : spotErr s = 0 := if_pos h2
      rw [h3] at HC hfs
      clear ht hE HT h2 h3
      go_enter Tryz.func15, Tryz.ntmps15
      go_wp2_with (first | (go_at_call 30; refine HC.out.mono ?_; rintro e w1 ⟨rfl, hb1⟩; have HK1 := Lib.hid (Keep.of_below (bs := []) hb1); clear hb1) | (go_at_call 31; refine (HD _ (HE.out.keep HK1.out (by simp))).out.mono ?_; rintro e w2 ⟨rfl, hk2⟩; have HK2 := Lib.hid (HK1.out.nil hk2); clear hk2))
      go_ret
      exact ⟨rfl, HK2.out⟩
    · have HT := Lib.hid (show t = ⟨#[]⟩ by rw [← ht]; unfold plainT; rw [if_pos (.inr h2)])
      have h3 : spotErr s = 6 := if_neg h2
      rw [h3] at HC hfs
      clear ht hE h2 h3
      go_enter Tryz.func15, Tryz.ntmps15
      go_wp2_with (go_at_call 30; refine HC.out.mono ?_; rintro e w1 ⟨rfl, hb1⟩; have HK1 := Lib.hid (Keep.of_below (bs := []) hb1); clear hb1)
      go_ret
      exact ⟨by rw [HT.out]; rfl, HK1.out⟩
end Go.Proofs.YtjldgcpmdcoejaaGreatDoor
